/- Plain: sums, and why no release ends later than its response says. -/
namespace Go.Proofs.Ytlbbhlkbhegegaa

def sumN (f : Nat → Int) : Nat → Int
  | 0 => 0
  | n + 1 => sumN f n + f n
theorem sumN_le {f g : Nat → Int} : ∀ {n : Nat}, (∀ k, k < n → f k ≤ g k) → sumN f n ≤ sumN g n
  | 0, _ => Int.le_refl _
  | n + 1, h => by
    have h1 := sumN_le (n := n) fun k hk => h k (by omega)
    have h2 := h n (by omega)
    rw [sumN, sumN]; omega
theorem sumN_congr {f g : Nat → Int} {n : Nat} (h : ∀ k, k < n → f k = g k) : sumN f n = sumN g n :=
  Int.le_antisymm (sumN_le fun k hk => Int.le_of_eq (h k hk)) (sumN_le fun k hk => Int.le_of_eq (h k hk).symm)
theorem sumN_lt {f g : Nat → Int} : ∀ {n j : Nat}, (∀ k, k < n → f k ≤ g k) → j < n → f j + 1 ≤ g j → sumN f n + 1 ≤ sumN g n
  | 0, _, _, h, _ => by omega
  | n + 1, j, h, hj, hlt => by
    rw [sumN, sumN]
    by_cases e : j = n
    · subst e
      have h1 := sumN_le (n := j) fun k hk => h k (by omega)
      omega
    · have h1 := sumN_lt (n := n) (fun k hk => h k (by omega)) (show j < n by omega) hlt
      have h2 := h n (by omega)
      omega
theorem sumN_add (f g : Nat → Int) : ∀ n, sumN (fun k => f k + g k) n = sumN f n + sumN g n
  | 0 => rfl
  | n + 1 => by rw [sumN, sumN, sumN, sumN_add f g n]; omega
theorem sumN_zero : ∀ n, sumN (fun _ => 0) n = 0
  | 0 => rfl
  | n + 1 => by rw [sumN, sumN_zero n]; rfl
theorem sumN_one : ∀ n, sumN (fun _ => 1) n = n
  | 0 => rfl
  | n + 1 => by rw [sumN, sumN_one n]; omega
theorem sumN_mul (f : Nat → Int) (c : Int) : ∀ n, sumN (fun k => f k * c) n = sumN f n * c
  | 0 => by simp [sumN]
  | n + 1 => by rw [sumN, sumN, sumN_mul f c n, Int.add_mul]
theorem sumN_swap (F : Nat → Nat → Int) (n : Nat) : ∀ x, sumN (fun t => sumN (fun k => F t k) n) x = sumN (fun k => sumN (fun t => F t k) x) n
  | 0 => by rw [sumN]; exact (sumN_zero n).symm
  | x + 1 => by
    rw [sumN, sumN_swap F n x, ← sumN_add]
    exact sumN_congr fun k _ => rfl
theorem sumN_nn {f : Nat → Int} {n : Nat} (h : ∀ k, k < n → 0 ≤ f k) : 0 ≤ sumN f n := by
  have := sumN_le (f := fun _ => 0) (g := f) h
  rw [sumN_zero] at this; exact this
theorem sumN_pick (v : Nat → Int) (h0 : Nat) : ∀ m, h0 < m → sumN (fun h => if h0 = h then v h else 0) m = v h0
  | 0, h => by omega
  | m + 1, h => by
    rw [sumN]
    by_cases e : h0 = m
    · subst e
      have : sumN (fun h => if h0 = h then v h else 0) h0 = sumN (fun _ => 0) h0 := sumN_congr fun k hk => by rw [if_neg (by omega)]
      rw [this, sumN_zero, if_pos rfl]; omega
    · rw [if_neg e, sumN_pick v h0 m (by omega)]; omega
theorem sumN_ge {f : Nat → Int} : ∀ {n j : Nat}, (∀ k, k < n → 0 ≤ f k) → j < n → f j ≤ sumN f n
  | 0, _, _, h => by omega
  | n + 1, j, h, hj => by
    rw [sumN]
    by_cases e : j = n
    · subst e
      have := sumN_nn (n := j) fun k hk => h k (by omega)
      omega
    · have h1 := sumN_ge (n := n) (fun k hk => h k (by omega)) (show j < n by omega)
      have h2 := h n (by omega)
      omega
theorem sumN_alone {f : Nat → Int} {M : Int} (hM : 0 ≤ M) : ∀ {n : Nat}, (∀ k, k < n → 0 ≤ f k ∧ f k ≤ M) → (∀ j k, j < n → k < n → 0 < f j → 0 < f k → j = k) → sumN f n ≤ M
  | 0, _, _ => hM
  | n + 1, h, h1 => by
    rw [sumN]
    have ih := sumN_alone hM (n := n) (fun k hk => h k (by omega)) (fun j k hj hk => h1 j k (by omega) (by omega))
    have hn := h n (by omega)
    by_cases e : 0 < f n
    · have hz : sumN f n = 0 := by
        have : sumN f n = sumN (fun _ => 0) n := sumN_congr fun k hk => by
          have h2 := h k (by omega)
          by_cases e2 : 0 < f k
          · have := h1 k n (by omega) (by omega) e2 e
            omega
          · omega
        rw [this, sumN_zero]
      omega
    · omega
/-- how many of x slots from a on lie between lo and hi -/
def slotN (a lo hi : Int) (x : Nat) : Int := sumN (fun t => if lo ≤ a + t ∧ a + t < hi then 1 else 0) x
theorem slotN_bd (a lo hi : Int) : ∀ x : Nat, 0 ≤ slotN a lo hi x ∧ (slotN a lo hi x ≤ 0 ∨ (slotN a lo hi x ≤ a + x - lo ∧ slotN a lo hi x ≤ hi - lo ∧ slotN a lo hi x ≤ x ∧ slotN a lo hi x ≤ hi - a))
  | 0 => ⟨Int.le_refl _, Or.inl (Int.le_refl _)⟩
  | x + 1 => by
    have ih := slotN_bd a lo hi x
    have e : slotN a lo hi (x + 1) = slotN a lo hi x + if lo ≤ a + x ∧ a + x < hi then 1 else 0 := rfl
    rw [e]
    by_cases h : lo ≤ a + x ∧ a + x < hi
    · rw [if_pos h]
      refine ⟨by omega, Or.inr ?_⟩
      omega
    · rw [if_neg h]
      refine ⟨by omega, ?_⟩
      omega
theorem slotN_pos {a lo hi : Int} : ∀ {x : Nat}, 0 < slotN a lo hi x → ∃ t : Nat, t < x ∧ lo ≤ a + t ∧ a + t < hi
  | 0, h => by simp [slotN, sumN] at h
  | x + 1, h => by
    have e : slotN a lo hi (x + 1) = slotN a lo hi x + if lo ≤ a + x ∧ a + x < hi then 1 else 0 := rfl
    by_cases hh : lo ≤ a + x ∧ a + x < hi
    · exact ⟨x, by omega, hh⟩
    · rw [e, if_neg hh] at h
      obtain ⟨t, ht, h2⟩ := slotN_pos (a := a) (lo := lo) (hi := hi) (x := x) (by omega)
      exact ⟨t, by omega, h2⟩
/-- slots that are all covered are at most as many as those that cover them take -/
theorem cover_le {a : Int} {x n : Nat} {lo hi : Nat → Int} (h : ∀ t : Nat, t < x → ∃ k, k < n ∧ lo k ≤ a + t ∧ a + t < hi k) : (x : Int) ≤ sumN (fun k => slotN a (lo k) (hi k) x) n := by
  have h1 : (x : Int) ≤ sumN (fun t => sumN (fun k => if lo k ≤ a + (t : Nat) ∧ a + (t : Nat) < hi k then 1 else 0) n) x := by
    rw [← sumN_one x]
    refine sumN_le fun t ht => ?_
    obtain ⟨k, hk, h2⟩ := h t ht
    have := sumN_ge (f := fun k => if lo k ≤ a + (t : Nat) ∧ a + (t : Nat) < hi k then (1 : Int) else 0) (n := n) (j := k) (fun k _ => by by_cases e : lo k ≤ a + (t : Nat) ∧ a + (t : Nat) < hi k <;> simp [e]) hk
    simp only [if_pos h2] at this
    exact this
  rw [sumN_swap (fun t k => if lo k ≤ a + (t : Nat) ∧ a + (t : Nat) < hi k then 1 else 0)] at h1
  exact h1
/-- releases summed frame by frame -/
theorem sumN_group {fr : Nat → Nat} {n m : Nat} (P : Nat → Bool) (g : Nat → Int) (h : ∀ k, k < n → fr k < m) :
    sumN (fun k => if P k = true then g (fr k) else 0) n = sumN (fun f => sumN (fun k => if P k = true ∧ fr k = f then 1 else 0) n * g f) m := by
  have h1 : sumN (fun k => if P k = true then g (fr k) else 0) n = sumN (fun k => sumN (fun f => (if P k = true ∧ fr k = f then 1 else 0) * g f) m) n := sumN_congr fun k hk => by
    by_cases e : P k = true
    · rw [if_pos e, ← sumN_pick g (fr k) m (h k hk)]
      exact sumN_congr fun f _ => by
        by_cases e2 : fr k = f
        · simp [e, e2]
        · simp [e, e2]
    · rw [if_neg e]
      have : sumN (fun f => (if P k = true ∧ fr k = f then 1 else 0) * g f) m = sumN (fun _ => 0) m := sumN_congr fun f _ => by simp [e]
      rw [this, sumN_zero]
  rw [h1, sumN_swap (fun k f => (if P k = true ∧ fr k = f then 1 else 0) * g f)]
  exact sumN_congr fun f _ => sumN_mul (fun k => if P k = true ∧ fr k = f then 1 else 0) (g f) n

/-- releases of frames that are played: what the law of the bus needs -/
structure Played (n m : Nat) (fr : Nat → Nat) (at_ E : Nat → Int) (sz ev ji rk off : Nat → Int) (c : Nat → Nat → Nat) : Prop where
  frm : ∀ k, k < n → fr k < m
  siz : ∀ h, h < m → 1 ≤ sz h
  evy : ∀ h, h < m → 1 ≤ ev h
  jit : ∀ h, h < m → 0 ≤ ji h
  at0 : ∀ k, k < n → 0 ≤ at_ k
  rks : ∀ h g, h < m → g < m → rk h = rk g → h = g
  beg : ∀ k, k < n → at_ k ≤ E k - sz (fr k)
  apart : ∀ i j, i < n → j < n → i ≠ j → E i - sz (fr i) < E j → E j - sz (fr j) < E i → False
  busy : ∀ (t : Int) (k : Nat), k < n → at_ k ≤ t → t < E k - sz (fr k) → ∃ j, j < n ∧ E j - sz (fr j) ≤ t ∧ t < E j
  best : ∀ i k, i < n → k < n → at_ k ≤ E i - sz (fr i) → E i - sz (fr i) < E k - sz (fr k) → ¬ (rk (fr k) < rk (fr i) ∨ rk (fr k) = rk (fr i) ∧ at_ k < at_ i) ∧ (k < i → (rk (fr i) < rk (fr k) ∨ rk (fr i) = rk (fr k) ∧ at_ i < at_ k))
  due : ∀ k, k < n → off (fr k) + (c (fr k) k : Int) * ev (fr k) ≤ at_ k ∧ at_ k ≤ off (fr k) + (c (fr k) k : Int) * ev (fr k) + ji (fr k)
  mono : ∀ j k, j < k → k < n → fr j = fr k → at_ j ≤ at_ k
  c0 : ∀ h, c h 0 = 0
  cs : ∀ h k, c h (k + 1) = c h k + if fr k = h then 1 else 0
section
variable {n m : Nat} {fr : Nat → Nat} {at_ E : Nat → Int} {sz ev ji rk off : Nat → Int} {c : Nat → Nat → Nat}
theorem Played.cmono (H : Played n m fr at_ E sz ev ji rk off c) (h : Nat) {j : Nat} : ∀ d, c h j ≤ c h (j + d)
  | 0 => Nat.le_refl _
  | d + 1 => by
    have h1 := H.cmono h (j := j) d
    have h2 := H.cs h (j + d)
    rw [← Nat.add_assoc]
    omega
theorem Played.clt (H : Played n m fr at_ E sz ev ji rk off c) {h j k : Nat} (hj : fr j = h) (hjk : j < k) : c h j + 1 ≤ c h k := by
  have h1 := H.cs h j
  rw [if_pos hj] at h1
  have h2 := H.cmono h (j := j + 1) (k - (j + 1))
  rw [show j + 1 + (k - (j + 1)) = k by omega] at h2
  omega
/-- how many releases of a frame are in a set -/
theorem Played.span (H : Played n m fr at_ E sz ev ji rk off c) (h : Nat) (P : Nat → Bool) : ∀ x, sumN (fun k => if P k = true ∧ fr k = h then 1 else 0) x = 0 ∨
    ∃ j k, j ≤ k ∧ k < x ∧ P j = true ∧ fr j = h ∧ P k = true ∧ fr k = h ∧ sumN (fun k => if P k = true ∧ fr k = h then 1 else 0) x ≤ (c h k : Int) + 1 - c h j
  | 0 => Or.inl rfl
  | x + 1 => by
    have e : sumN (fun k => if P k = true ∧ fr k = h then 1 else 0) (x + 1) = sumN (fun k => if P k = true ∧ fr k = h then 1 else 0) x + if P x = true ∧ fr x = h then 1 else 0 := rfl
    rw [e]
    by_cases hx : P x = true ∧ fr x = h
    · rw [if_pos hx]
      rcases H.span h P x with h0 | ⟨j, k, h1, h2, h3, h4, h5, h6, h7⟩
      · exact Or.inr ⟨x, x, Nat.le_refl _, by omega, hx.1, hx.2, hx.1, hx.2, by omega⟩
      · have := H.clt h6 h2
        exact Or.inr ⟨j, x, by omega, by omega, h3, h4, hx.1, hx.2, by omega⟩
    · rw [if_neg hx, Int.add_zero]
      rcases H.span h P x with h0 | ⟨j, k, h1, h2, h7⟩
      · exact Or.inl h0
      · exact Or.inr ⟨j, k, h1, by omega, h7⟩
/-- releases of a frame that come within y + 1 ticks -/
theorem Played.count (H : Played n m fr at_ E sz ev ji rk off c) {h : Nat} (hh : h < m) (P : Nat → Bool) {a y : Int} (hy : 0 ≤ y) (hP : ∀ k, k < n → P k = true → fr k = h → a ≤ at_ k ∧ at_ k ≤ a + y) :
    sumN (fun k => if P k = true ∧ fr k = h then 1 else 0) n ≤ (y + ji h) / ev h + 1 := by
  have he := H.evy h hh
  have hj := H.jit h hh
  have hdiv : 0 ≤ (y + ji h) / ev h := Int.ediv_nonneg (by omega) (by omega)
  rcases H.span h P n with h0 | ⟨j, k, h1, h2, h3, h4, h5, h6, h7⟩
  · omega
  · refine Int.le_trans h7 ?_
    have dj := H.due j (by omega)
    have dk := H.due k h2
    have aj := hP j (by omega) h3 h4
    have ak := hP k h2 h5 h6
    rw [h4] at dj
    rw [h6] at dk
    have : ((c h k : Int) - c h j) ≤ (y + ji h) / ev h := by
      refine (Int.le_ediv_iff_mul_le (by omega)).2 ?_
      rw [Int.sub_mul]
      omega
    omega
end
theorem greatest (Q : Int → Prop) (h0 : Q 0) : ∀ N : Nat, ∃ s : Int, 0 ≤ s ∧ s ≤ N ∧ Q s ∧ ∀ t, s < t → t ≤ N → ¬ Q t
  | 0 => ⟨0, Int.le_refl _, Int.le_refl _, h0, fun t h1 h2 => by omega⟩
  | N + 1 => by
    by_cases h : Q ((N : Int) + 1)
    · exact ⟨(N : Int) + 1, by omega, by omega, h, fun t h1 h2 => by omega⟩
    · obtain ⟨s, h1, h2, h3, h4⟩ := greatest Q h0 N
      refine ⟨s, h1, by omega, h3, fun t h5 h6 => ?_⟩
      by_cases e : t = (N : Int) + 1
      · rw [e]; exact h
      · exact h4 t h5 (by omega)
theorem up_div (b j e : Int) (he : 1 ≤ e) : (b + j + e - 1) / e = (b - 1 + j) / e + 1 := by
  rw [show b + j + e - 1 = (b - 1 + j) + 1 * e by omega, Int.add_mul_ediv_right _ _ (by omega)]
section
variable {n m : Nat} {fr : Nat → Nat} {at_ E : Nat → Int} {sz ev ji rk off : Nat → Int} {c : Nat → Nat → Nat}
/-- the window in which a release waits -/
structure Win (n : Nat) (fr : Nat → Nat) (at_ E sz rk : Nat → Int) (i : Nat) (s0 : Int) : Prop where
  le : s0 ≤ E i - sz (fr i)
  full : ∀ t, s0 < t → t ≤ E i - sz (fr i) → ∃ k, k < n ∧ rk (fr k) ≤ rk (fr i) ∧ at_ k < t ∧ t < E k
  high : ∀ k, k < n → rk (fr k) ≤ rk (fr i) → s0 < E k → s0 ≤ at_ k
theorem Played.win (H : Played n m fr at_ E sz ev ji rk off c) {i : Nat} (hi : i < n) : ∃ s0, Win n fr at_ E sz rk i s0 := by
  have hai := H.beg i hi
  have ha0 := H.at0 i hi
  obtain ⟨s, h1, h2, h3, h4⟩ := greatest (fun t => ∀ k, k < n → rk (fr k) ≤ rk (fr i) → at_ k < t → E k ≤ t) (fun k hk _ h => by have := H.at0 k hk; omega) (E i - sz (fr i)).toNat
  refine ⟨s, by omega, fun t h5 h6 => ?_, fun k hk hr he => ?_⟩
  · have h7 := h4 t h5 (by omega)
    apply Classical.byContradiction
    intro hn
    refine h7 fun k hk hr ha => ?_
    rcases Int.lt_or_le t (E k) with h8 | h8
    · exact absurd ⟨k, hk, hr, ha, h8⟩ hn
    · exact h8
  · rcases Int.lt_or_le (at_ k) s with h8 | h8
    · have := h3 k hk hr h8; omega
    · exact h8
theorem Played.covered (H : Played n m fr at_ E sz ev ji rk off c) {i : Nat} {s0 : Int} (w : Win n fr at_ E sz rk i s0) {t : Int} (h1 : s0 ≤ t) (h2 : t < E i - sz (fr i)) : ∃ j, j < n ∧ E j - sz (fr j) ≤ t ∧ t < E j := by
  obtain ⟨k, hk, _, h4, h5⟩ := w.full (t + 1) (by omega) (by omega)
  rcases Int.lt_or_le t (E k - sz (fr k)) with h6 | h6
  · exact H.busy t k hk (by omega) h6
  · exact ⟨k, hk, h6, by omega⟩
theorem Played.low (H : Played n m fr at_ E sz ev ji rk off c) {i : Nat} {s0 : Int} (w : Win n fr at_ E sz rk i s0) {j : Nat} (hj : j < n) (hr : rk (fr i) < rk (fr j)) {t : Int} (h2 : t < E i - sz (fr i)) (h3 : E j - sz (fr j) ≤ t) (h4 : t < E j) : E j - sz (fr j) < s0 := by
  rcases Int.lt_or_le (E j - sz (fr j)) s0 with h5 | h5
  · exact h5
  · exfalso
    obtain ⟨k, hk, hkr, h6, h7⟩ := w.full (E j - sz (fr j) + 1) (by omega) (by omega)
    rcases Int.lt_or_le (E j - sz (fr j)) (E k - sz (fr k)) with h8 | h8
    · exact (H.best j k hj hk (by omega) h8).1 (Or.inl (by omega))
    · exact H.apart j k hj hk (fun e => by subst e; omega) (by omega) (by omega)
theorem Played.own (H : Played n m fr at_ E sz ev ji rk off c) {i k : Nat} (hi : i < n) (hk : k < n) (hf : fr k = fr i) (hb : E k - sz (fr k) < E i - sz (fr i)) : k < i := by
  rcases Nat.lt_or_ge k i with h | h
  · exact h
  · exfalso
    have hki : i < k := by
      rcases Nat.lt_or_eq_of_le h with h1 | h1
      · exact h1
      · subst h1; omega
    have h1 := H.mono i k hki hk hf.symm
    have h2 := H.beg k hk
    have h3 := (H.best k i hk hi (by omega) hb).2 hki
    rw [hf] at h3
    omega
/-- what the slots of the window hold: one from below, and those above and alike -/
theorem Played.slots (H : Played n m fr at_ E sz ev ji rk off c) {i : Nat} {s0 : Int} (w : Win n fr at_ E sz rk i s0) {block : Int} (hb0 : 0 ≤ block) (hbl : ∀ h, h < m → rk (fr i) < rk h → sz h - 1 ≤ block)
    {x : Nat} (hx : s0 + x ≤ E i - sz (fr i)) : (x : Int) ≤ block + sumN (fun k => if rk (fr k) ≤ rk (fr i) then slotN s0 (E k - sz (fr k)) (E k) x else 0) n := by
  have hc := cover_le (a := s0) (x := x) (n := n) (lo := fun k => E k - sz (fr k)) (hi := E) fun t ht => H.covered w (by omega) (by omega)
  have hl : sumN (fun k => if rk (fr i) < rk (fr k) then slotN s0 (E k - sz (fr k)) (E k) x else 0) n ≤ block := by
    have hbd : ∀ k, k < n → 0 < (if rk (fr i) < rk (fr k) then slotN s0 (E k - sz (fr k)) (E k) x else 0) → rk (fr i) < rk (fr k) ∧ E k - sz (fr k) < s0 ∧ s0 < E k := fun k hk hp => by
      by_cases e : rk (fr i) < rk (fr k)
      · rw [if_pos e] at hp
        obtain ⟨t, ht, h1, h2⟩ := slotN_pos hp
        exact ⟨e, H.low w hk e (t := s0 + t) (by omega) h1 h2, by omega⟩
      · rw [if_neg e] at hp; omega
    refine sumN_alone hb0 (fun k hk => ?_) (fun j k hj hk h1 h2 => ?_)
    · have hs := slotN_bd s0 (E k - sz (fr k)) (E k) x
      by_cases e : 0 < (if rk (fr i) < rk (fr k) then slotN s0 (E k - sz (fr k)) (E k) x else 0)
      · obtain ⟨h1, h2, h3⟩ := hbd k hk e
        have := hbl (fr k) (H.frm k hk) h1
        rw [if_pos h1] at e ⊢
        omega
      · by_cases e2 : rk (fr i) < rk (fr k)
        · rw [if_pos e2] at e ⊢; omega
        · rw [if_neg e2]; omega
    · obtain ⟨_, a1, a2⟩ := hbd j hj h1
      obtain ⟨_, b1, b2⟩ := hbd k hk h2
      apply Classical.byContradiction
      intro hne
      exact H.apart j k hj hk hne (by omega) (by omega)
  have hs : sumN (fun k => slotN s0 (E k - sz (fr k)) (E k) x) n = sumN (fun k => if rk (fr i) < rk (fr k) then slotN s0 (E k - sz (fr k)) (E k) x else 0) n + sumN (fun k => if rk (fr k) ≤ rk (fr i) then slotN s0 (E k - sz (fr k)) (E k) x else 0) n := by
    rw [← sumN_add]
    refine sumN_congr fun k _ => ?_
    by_cases e : rk (fr i) < rk (fr k)
    · rw [if_pos e, if_neg (by omega)]; omega
    · rw [if_neg e, if_pos (by omega)]; omega
  omega
/-- what the releases of some frames take that come within y + 1 ticks -/
theorem Played.takes (H : Played n m fr at_ E sz ev ji rk off c) (Q : Nat → Prop) [DecidablePred Q] {a y : Int} (hy : 0 ≤ y) :
    sumN (fun k => if decide (Q (fr k) ∧ a ≤ at_ k ∧ at_ k ≤ a + y) = true then sz (fr k) else 0) n ≤ sumN (fun h => if Q h then ((y + ji h) / ev h + 1) * sz h else 0) m := by
  rw [sumN_group _ sz H.frm]
  refine sumN_le fun h hh => ?_
  have hs := H.siz h hh
  by_cases e : Q h
  · rw [if_pos e]
    refine Int.mul_le_mul_of_nonneg_right ?_ (by omega)
    exact H.count hh _ hy fun k hk hP _ => (of_decide_eq_true hP).2
  · rw [if_neg e]
    have : sumN (fun k => if decide (Q (fr k) ∧ a ≤ at_ k ∧ at_ k ≤ a + y) = true ∧ fr k = h then (1 : Int) else 0) n = sumN (fun _ => 0) n := sumN_congr fun k _ => by
      rw [if_neg]
      intro ⟨h1, h2⟩
      exact e (h2 ▸ (of_decide_eq_true h1).1)
    rw [this, sumN_zero]
    omega
theorem Played.noLater (H : Played n m fr at_ E sz ev ji rk off c) {i : Nat} (hi : i < n) {block B R : Int} (hb0 : 0 ≤ block) (hbl : ∀ h, h < m → rk (fr i) < rk h → sz h - 1 ≤ block) (hB1 : 1 ≤ B)
    (hB : block + sumN (fun h => if rk h ≤ rk (fr i) then ((B + ji h + ev h - 1) / ev h) * sz h else 0) m ≤ B)
    (hW : ∀ q : Nat, (q : Int) < (B + ji (fr i) + ev (fr i) - 1) / ev (fr i) → ∃ W, 0 ≤ W ∧ block + q * sz (fr i) + sumN (fun h => if rk h < rk (fr i) then ((W + ji h) / ev h + 1) * sz h else 0) m ≤ W ∧ W + sz (fr i) + ji (fr i) - q * ev (fr i) ≤ R) :
    E i ≤ off (fr i) + (c (fr i) i : Int) * ev (fr i) + R := by
  obtain ⟨s0, w⟩ := H.win hi
  have hfi := H.frm i hi
  have hsi := H.siz _ hfi
  have hei := H.evy _ hfi
  have hji := H.jit _ hfi
  have hdi := H.due i hi
  have hai := H.beg i hi
  have hle := w.le
  have hsai := w.high i hi (Int.le_refl _) (by omega)
  -- the window is shorter than the busy time
  have hbusy : E i - sz (fr i) < s0 + B := by
    rcases Int.lt_or_le (E i - sz (fr i)) (s0 + B) with h | h
    · exact h
    · exfalso
      have h1 := H.slots w hb0 hbl (x := B.toNat) (by omega)
      obtain ⟨k, hk, hkr, hka, hke⟩ := w.full (s0 + B) (by omega) h
      have hks := w.high k hk hkr (by omega)
      have h2 : sumN (fun k => if rk (fr k) ≤ rk (fr i) then slotN s0 (E k - sz (fr k)) (E k) B.toNat else 0) n + 1 ≤ sumN (fun k => if decide (rk (fr k) ≤ rk (fr i) ∧ s0 ≤ at_ k ∧ at_ k ≤ s0 + (B - 1)) = true then sz (fr k) else 0) n := by
        refine sumN_lt (j := k) (fun j hj => ?_) hk ?_
        · have hs := slotN_bd s0 (E j - sz (fr j)) (E j) B.toNat
          have hz := H.siz _ (H.frm j hj)
          have haj := H.beg j hj
          by_cases e : rk (fr j) ≤ rk (fr i)
          · rw [if_pos e]
            by_cases e0 : 0 < slotN s0 (E j - sz (fr j)) (E j) B.toNat
            · obtain ⟨t, ht, h3, h4⟩ := slotN_pos e0
              have h5 := w.high j hj e (by omega)
              rw [if_pos (decide_eq_true ⟨e, h5, by omega⟩)]
              omega
            · split <;> omega
          · rw [if_neg e]; split <;> omega
        · have hs := slotN_bd s0 (E k - sz (fr k)) (E k) B.toNat
          have hz := H.siz _ (H.frm k hk)
          rw [if_pos hkr, if_pos (decide_eq_true ⟨hkr, hks, by omega⟩)]
          omega
      have h3 := H.takes (fun h => rk h ≤ rk (fr i)) (a := s0) (y := B - 1) (by omega)
      have h4 : sumN (fun h => if rk h ≤ rk (fr i) then ((B - 1 + ji h) / ev h + 1) * sz h else 0) m = sumN (fun h => if rk h ≤ rk (fr i) then ((B + ji h + ev h - 1) / ev h) * sz h else 0) m := sumN_congr fun h hh => by
        rw [up_div B (ji h) (ev h) (H.evy h hh)]
      rw [h4] at h3
      omega
  -- own releases ahead
  obtain ⟨q, hq⟩ : ∃ q : Nat, sumN (fun k => if decide (k < i ∧ fr k = fr i ∧ s0 ≤ at_ k) = true ∧ fr k = fr i then (1 : Int) else 0) n = q :=
    ⟨_, (Int.toNat_of_nonneg (sumN_nn fun k _ => by split <;> omega)).symm⟩
  have hD : s0 - ji (fr i) + q * ev (fr i) ≤ off (fr i) + (c (fr i) i : Int) * ev (fr i) := by
    rcases H.span (fr i) (fun k => decide (k < i ∧ fr k = fr i ∧ s0 ≤ at_ k)) n with h0 | ⟨j, k, h1, h2, h3, h4, h5, h6, h7⟩
    · have : (q : Int) = 0 := by rw [← hq]; exact h0
      rw [this]
      omega
    · have h3 := of_decide_eq_true h3
      have h5 := of_decide_eq_true h5
      have h8 := H.clt h6 h5.1
      have dj := H.due j (by omega)
      rw [h4] at dj
      have h9 : (q : Int) ≤ (c (fr i) i : Int) - c (fr i) j := by rw [← hq]; omega
      have h10 := Int.mul_le_mul_of_nonneg_right h9 (show 0 ≤ ev (fr i) by omega)
      rw [Int.sub_mul] at h10
      omega
  have hqB : (q : Int) < (B + ji (fr i) + ev (fr i) - 1) / ev (fr i) := by
    rw [up_div B _ _ hei]
    have : (q : Int) ≤ (B - 1 + ji (fr i)) / ev (fr i) := (Int.le_ediv_iff_mul_le (by omega)).2 (by omega)
    omega
  obtain ⟨W, hW0, hW1, hW2⟩ := hW q hqB
  have hwait : E i - sz (fr i) ≤ s0 + W := by
    rcases Int.lt_or_le (s0 + W) (E i - sz (fr i)) with h | h
    · exfalso
      have h1 := H.slots w hb0 hbl (x := (W + 1).toNat) (by omega)
      have h2 : sumN (fun k => if rk (fr k) ≤ rk (fr i) then slotN s0 (E k - sz (fr k)) (E k) (W + 1).toNat else 0) n ≤
          sumN (fun k => (if decide (k < i ∧ fr k = fr i ∧ s0 ≤ at_ k) = true ∧ fr k = fr i then (1 : Int) else 0) * sz (fr i) + if decide (rk (fr k) < rk (fr i) ∧ s0 ≤ at_ k ∧ at_ k ≤ s0 + W) = true then sz (fr k) else 0) n := by
        refine sumN_le fun k hk => ?_
        have hs := slotN_bd s0 (E k - sz (fr k)) (E k) (W + 1).toNat
        have hz := H.siz _ (H.frm k hk)
        have hak := H.beg k hk
        have hnn : 0 ≤ (if decide (k < i ∧ fr k = fr i ∧ s0 ≤ at_ k) = true ∧ fr k = fr i then (1 : Int) else 0) * sz (fr i) := Int.mul_nonneg (by split <;> omega) (by omega)
        by_cases e0 : rk (fr k) ≤ rk (fr i) ∧ 0 < slotN s0 (E k - sz (fr k)) (E k) (W + 1).toNat
        · obtain ⟨e, e0⟩ := e0
          rw [if_pos e]
          obtain ⟨t, ht, h3, h4⟩ := slotN_pos e0
          have h5 := w.high k hk e (by omega)
          by_cases e1 : rk (fr k) = rk (fr i)
          · have e2 := H.rks _ _ (H.frm k hk) hfi e1
            have h6 := H.own hi hk e2 (by omega)
            have h7 : (if decide (k < i ∧ fr k = fr i ∧ s0 ≤ at_ k) = true ∧ fr k = fr i then (1 : Int) else 0) * sz (fr i) = sz (fr k) := by
              rw [if_pos ⟨decide_eq_true ⟨h6, e2, h5⟩, e2⟩, e2, Int.one_mul]
            have : 0 ≤ (if decide (rk (fr k) < rk (fr i) ∧ s0 ≤ at_ k ∧ at_ k ≤ s0 + W) = true then sz (fr k) else 0) := by split <;> omega
            omega
          · rw [if_pos (show decide (rk (fr k) < rk (fr i) ∧ s0 ≤ at_ k ∧ at_ k ≤ s0 + W) = true from decide_eq_true ⟨by omega, h5, by omega⟩)]
            omega
        · have h3 : (if rk (fr k) ≤ rk (fr i) then slotN s0 (E k - sz (fr k)) (E k) (W + 1).toNat else 0) ≤ 0 := by
            by_cases e : rk (fr k) ≤ rk (fr i)
            · rw [if_pos e]
              rcases Int.lt_or_le 0 (slotN s0 (E k - sz (fr k)) (E k) (W + 1).toNat) with h4 | h4
              · exact absurd ⟨e, h4⟩ e0
              · exact h4
            · rw [if_neg e]; omega
          have h4 : 0 ≤ (if decide (rk (fr k) < rk (fr i) ∧ s0 ≤ at_ k ∧ at_ k ≤ s0 + W) = true then sz (fr k) else 0) := by split <;> omega
          omega
      rw [sumN_add, sumN_mul, hq] at h2
      have h3 := H.takes (fun h => rk h < rk (fr i)) (a := s0) (y := W) hW0
      omega
    · exact h
  omega
end
end Go.Proofs.Ytlbbhlkbhegegaa
