/- Plain: slotted buses: placing messages in slots; greedy placing. -/
namespace Go.Proofs.Ytlbbhlkbhegegaa

/-- a message: its sender, and every how many cycles it is sent -/
structure MMsg where
  sender : Int
  every : Nat
/-- a place: a slot, a base -/
structure MPlace where
  slot : Nat
  base : Nat
/-- two messages in two places are never sent at once -/
def apartM (a b : MMsg) (x y : MPlace) : Prop := x.slot = y.slot → a.sender = b.sender ∧ x.base % min a.every b.every ≠ y.base % min a.every b.every
theorem apartM.symm {a b : MMsg} {x y : MPlace} (h : apartM a b x y) : apartM b a y x := fun e => by
  obtain ⟨h1, h2⟩ := h e.symm
  rw [Nat.min_comm] at h2
  exact ⟨h1.symm, h2.symm⟩
/-- what is placed -/
abbrev Placed := List (MMsg × MPlace)
/-- a message fits beside what is placed -/
def freeP (P : Placed) (m : MMsg) (x : MPlace) : Prop := ∀ p ∈ P, apartM p.1 m p.2 x
/-- a place that a bus with S slots has for a message -/
def inP (S : Nat) (m : MMsg) (x : MPlace) : Prop := x.slot < S ∧ x.base < m.every
/-- messages can all be placed beside P, in their order -/
def Comp (S : Nat) : Placed → List MMsg → List MPlace → Prop
  | _, [], [] => True
  | P, m :: l, x :: xs => inP S m x ∧ freeP P m x ∧ Comp S (P ++ [(m, x)]) l xs
  | _, _, _ => False
/-- messages can all be placed beside P -/
def Can (S : Nat) (P : Placed) (l : List MMsg) : Prop := ∃ xs, Comp S P l xs
/-- the same, said of all pairs at once -/
def pairs (l : List MMsg) (xs : List MPlace) : Placed := l.zip xs
def Fits (S : Nat) (P Q : Placed) : Prop := (∀ q ∈ Q, inP S q.1 q.2 ∧ freeP P q.1 q.2) ∧ Q.Pairwise fun p q => apartM p.1 q.1 p.2 q.2
theorem comp_fits {S : Nat} : ∀ {l : List MMsg} {P : Placed} {xs : List MPlace}, Comp S P l xs ↔ xs.length = l.length ∧ Fits S P (pairs l xs)
  | [], P, [] => by simp [Comp, pairs, Fits]
  | [], P, _ :: _ => by simp [Comp]
  | _ :: _, P, [] => by simp [Comp]
  | m :: l, P, x :: xs => by
    unfold Comp
    rw [comp_fits (l := l)]
    unfold Fits pairs
    simp only [List.zip_cons_cons, List.length_cons, List.pairwise_cons, List.mem_cons]
    constructor
    · rintro ⟨h1, h2, h3, h4, h5⟩
      refine ⟨by omega, ?_, ?_, h5⟩
      · rintro q (rfl | hq)
        · exact ⟨h1, h2⟩
        · exact ⟨(h4 q hq).1, fun p hp => (h4 q hq).2 p (by simp [hp])⟩
      · intro q hq
        exact (h4 q hq).2 (m, x) (by simp)
    · rintro ⟨h1, h2, h3, h4⟩
      refine ⟨(h2 (m, x) (.inl rfl)).1, (h2 (m, x) (.inl rfl)).2, by omega, ?_, h4⟩
      intro q hq
      refine ⟨(h2 q (.inr hq)).1, fun p hp => ?_⟩
      rcases List.mem_append.1 hp with hp | hp
      · exact (h2 q (.inr hq)).2 p hp
      · obtain rfl : p = (m, x) := by simpa using hp
        exact h3 q hq
/-- the order in which they are placed does not matter -/
theorem Fits.perm {S : Nat} {P Q Q' : Placed} (h : Fits S P Q) (hp : Q.Perm Q') : Fits S P Q' :=
  ⟨fun q hq => h.1 q (hp.mem_iff.2 hq), (hp.pairwise_iff fun {_ _} h => h.symm).1 h.2⟩
theorem perm_zip {l l' : List MMsg} (h : l.Perm l') : ∀ {xs : List MPlace}, xs.length = l.length → ∃ xs', xs'.length = l'.length ∧ (pairs l xs).Perm (pairs l' xs') := by
  induction h with
  | nil => intro xs hx; exact ⟨[], rfl, by simp [pairs]⟩
  | cons a _ ih =>
    intro xs hx
    match xs, hx with
    | x :: xs, hx =>
      obtain ⟨xs', h1, h2⟩ := ih (xs := xs) (by simpa using hx)
      exact ⟨x :: xs', by simp [h1], by simpa [pairs] using h2⟩
  | swap a b l =>
    intro xs hx
    match xs, hx with
    | x :: y :: xs, hx => exact ⟨y :: x :: xs, by simpa using hx, by simpa [pairs] using List.Perm.swap _ _ _⟩
  | trans _ _ ih1 ih2 =>
    intro xs hx
    obtain ⟨ys, h1, h2⟩ := ih1 hx
    obtain ⟨zs, h3, h4⟩ := ih2 h1
    exact ⟨zs, h3, h2.trans h4⟩
theorem Can.perm {S : Nat} {P : Placed} {l l' : List MMsg} (h : Can S P l) (hp : l.Perm l') : Can S P l' := by
  obtain ⟨xs, hx⟩ := h
  obtain ⟨h1, h2⟩ := comp_fits.1 hx
  obtain ⟨ys, h3, h4⟩ := perm_zip hp h1
  exact ⟨ys, comp_fits.2 ⟨h3, h2.perm h4⟩⟩
theorem mod_cancel {b c u v d : Nat} (h : (b + u) % d = (b + v) % d) : (c + u) % d = (c + v) % d := by
  have h1 : ((b : Int) + u) % d = ((b : Int) + v) % d := by exact_mod_cast h
  have h2 : (u : Int) % d = (v : Int) % d := (Int.emod_add_cancel_left (i := (b : Int))).1 h1
  have h3 : ((c : Int) + u) % d = ((c : Int) + v) % d := (Int.emod_add_cancel_left (i := (c : Int))).2 h2
  exact_mod_cast h3
theorem mod_down {x y e d : Nat} (he : e ∣ d) (h : x % d = y % d) : x % e = y % e := by
  rw [← Nat.mod_mod_of_dvd x he, h, Nat.mod_mod_of_dvd y he]
theorem dvd_min {e a b : Nat} (ha : e ∣ a) (hb : e ∣ b) : e ∣ min a b := by
  rcases Nat.le_total a b with h | h
  · rw [Nat.min_eq_left h]; exact ha
  · rw [Nat.min_eq_right h]; exact hb
/-- a class of cycles of one slot goes to another one -/
def mvP (e : Nat) (x0 x1 : MPlace) (y : MPlace) : MPlace := if y.slot = x1.slot ∧ y.base % e = x1.base then ⟨x0.slot, x0.base + e * (y.base / e)⟩ else y
theorem mvP_in {e : Nat} {x0 x1 y : MPlace} (h : y.slot = x1.slot ∧ y.base % e = x1.base) : mvP e x0 x1 y = ⟨x0.slot, x0.base + e * (y.base / e)⟩ := if_pos h
theorem mvP_out {e : Nat} {x0 x1 y : MPlace} (h : ¬ (y.slot = x1.slot ∧ y.base % e = x1.base)) : mvP e x0 x1 y = y := if_neg h
section
variable {S : Nat} {P Q : Placed} {m : MMsg} {x0 x1 : MPlace}
theorem exchange (hP : ∀ p ∈ P, 0 < p.1.every ∧ (p.1.every ∣ m.every ∨ m.every ∣ p.1.every)) (hQ : ∀ q ∈ Q, 0 < q.1.every ∧ m.every ∣ q.1.every)
    (hx1 : inP S m x1) (hf1 : freeP P m x1) (hs : ∀ q ∈ Q, q.2.slot = x1.slot → q.1.sender = m.sender) (h : Fits S P ((m, x0) :: Q)) :
    Fits S P ((m, x1) :: Q.map fun q => (q.1, mvP m.every x0 x1 q.2)) := by
  obtain ⟨h1, h2⟩ := h
  rw [List.pairwise_cons] at h2
  obtain ⟨h2, h3⟩ := h2
  have hm0 := h1 (m, x0) (by simp)
  have hb0 : x0.base < m.every := hm0.1.2
  have hb1 : x1.base < m.every := hx1.2
  have c0 : x0.base % m.every = x0.base := Nat.mod_eq_of_lt hb0
  have c1 : x1.base % m.every = x1.base := Nat.mod_eq_of_lt hb1
  have csh : ∀ k, (x0.base + m.every * k) % m.every = x0.base := fun k => by rw [Nat.add_mul_mod_self_left, c0]
  have old : ∀ y : MPlace, y.base % m.every = x1.base → y.base = x1.base + m.every * (y.base / m.every) := fun y hy => by rw [← hy, Nat.mod_add_div]
  -- m and another message at x0
  have mq : ∀ q ∈ Q, q.2.slot = x0.slot → m.sender = q.1.sender ∧ x0.base ≠ q.2.base % m.every := fun q hq hsl => by
    obtain ⟨k1, k2⟩ := h2 q hq hsl.symm
    have e1 : min m.every q.1.every = m.every := Nat.min_eq_left (Nat.le_of_dvd (hQ q hq).1 (hQ q hq).2)
    rw [e1, c0] at k2
    exact ⟨k1, k2⟩
  refine ⟨fun q hq => ?_, ?_⟩
  · rcases List.mem_cons.1 hq with rfl | hq
    · exact ⟨hx1, hf1⟩
    · obtain ⟨⟨a, y⟩, hqm, rfl⟩ := List.mem_map.1 hq
      have hi := h1 (a, y) (by simp [hqm])
      have hd := hQ _ hqm
      dsimp only at hi hd ⊢
      by_cases hin : y.slot = x1.slot ∧ y.base % m.every = x1.base
      · rw [mvP_in hin]
        refine ⟨⟨hm0.1.1, ?_⟩, fun p hp hsl => ?_⟩
        · obtain ⟨n, hn⟩ := hd.2
          have hy : y.base < a.every := hi.1.2
          have hk : y.base / m.every < n := by
            rw [Nat.div_lt_iff_lt_mul (by omega), Nat.mul_comm, ← hn]; exact hy
          show x0.base + m.every * (y.base / m.every) < a.every
          rw [hn]
          have : m.every * (y.base / m.every + 1) ≤ m.every * n := Nat.mul_le_mul_left _ hk
          rw [Nat.mul_add, Nat.mul_one] at this
          omega
        · obtain ⟨k1, k2⟩ := hm0.2 p hp hsl
          refine ⟨k1.trans (hs _ hqm hin.1).symm, fun k3 => k2 ?_⟩
          dsimp only at k3 ⊢
          have hle : m.every ≤ a.every := Nat.le_of_dvd hd.1 hd.2
          rcases (hP p hp).2 with hdv | hdv
          · have hle2 : p.1.every ≤ m.every := Nat.le_of_dvd (by omega) hdv
            rw [Nat.min_eq_left (by omega)] at k3
            rw [Nat.min_eq_left hle2, k3]
            obtain ⟨u, hu⟩ := hdv
            rw [hu, Nat.mul_assoc, Nat.add_mul_mod_self_left]
          · have hle2 : m.every ≤ p.1.every := Nat.le_of_dvd (hP p hp).1 hdv
            rw [Nat.min_eq_right hle2, mod_down (dvd_min hdv hd.2) k3, csh, c0]
      · rw [mvP_out hin]
        exact hi
  · rw [List.pairwise_cons]
    refine ⟨fun q hq => ?_, ?_⟩
    · obtain ⟨⟨a, y⟩, hqm, rfl⟩ := List.mem_map.1 hq
      have hd := hQ _ hqm
      dsimp only at hd ⊢
      have e1 : min m.every a.every = m.every := Nat.min_eq_left (Nat.le_of_dvd hd.1 hd.2)
      by_cases hin : y.slot = x1.slot ∧ y.base % m.every = x1.base
      · rw [mvP_in hin]
        intro hsl
        refine ⟨(hs _ hqm hin.1).symm, fun k => ?_⟩
        dsimp only at hsl k
        rw [e1, c1, csh] at k
        exact (mq _ hqm (hin.1.trans hsl)).2 (k.symm.trans hin.2.symm)
      · rw [mvP_out hin]
        intro hsl
        refine ⟨(hs _ hqm hsl.symm).symm, fun k => hin ⟨hsl.symm, ?_⟩⟩
        rw [e1, c1] at k
        exact k.symm
    · rw [List.pairwise_map]
      refine List.Pairwise.imp_of_mem (fun {q r} hq hr hqr => ?_) h3
      obtain ⟨a, y⟩ := q
      obtain ⟨b, z⟩ := r
      dsimp only at hqr ⊢
      have hda := hQ _ hq
      have hdb := hQ _ hr
      dsimp only at hda hdb
      by_cases hy : y.slot = x1.slot ∧ y.base % m.every = x1.base
      · by_cases hz : z.slot = x1.slot ∧ z.base % m.every = x1.base
        · rw [mvP_in hy, mvP_in hz]
          intro _
          obtain ⟨k1, k2⟩ := hqr (hy.1.trans hz.1.symm)
          refine ⟨k1, fun k => k2 ?_⟩
          dsimp only at k
          rw [old y hy.2, old z hz.2]
          exact mod_cancel k
        · rw [mvP_in hy, mvP_out hz]
          intro hsl
          dsimp only at hsl
          obtain ⟨k1, k2⟩ := mq _ hr hsl.symm
          refine ⟨(hs _ hq hy.1).trans k1, fun k => k2 ?_⟩
          dsimp only at k
          rw [← mod_down (dvd_min hda.2 hdb.2) k, csh]
      · by_cases hz : z.slot = x1.slot ∧ z.base % m.every = x1.base
        · rw [mvP_out hy, mvP_in hz]
          intro hsl
          dsimp only at hsl
          obtain ⟨k1, k2⟩ := mq _ hq hsl
          refine ⟨k1.symm.trans (hs _ hr hz.1).symm, fun k => k2 ?_⟩
          dsimp only at k
          rw [mod_down (dvd_min hda.2 hdb.2) k, csh]
        · rw [mvP_out hy, mvP_out hz]
          exact hqr
/-- two slots in which nothing lies change their places -/
def swP (s t : Nat) (y : MPlace) : MPlace := ⟨if y.slot = s then t else if y.slot = t then s else y.slot, y.base⟩
theorem swP_inj {s t : Nat} {y z : MPlace} (h : (swP s t y).slot = (swP s t z).slot) : y.slot = z.slot := by
  unfold swP at h
  dsimp only at h
  split at h <;> split at h <;> (try split at h) <;> (try split at h) <;> omega
theorem swap_slots {s t : Nat} (hs : s < S) (ht : t < S) (hP : ∀ p ∈ P, p.2.slot ≠ s ∧ p.2.slot ≠ t) (h : Fits S P Q) : Fits S P (Q.map fun q => (q.1, swP s t q.2)) := by
  obtain ⟨h1, h2⟩ := h
  refine ⟨fun q hq => ?_, ?_⟩
  · obtain ⟨⟨a, y⟩, hqm, rfl⟩ := List.mem_map.1 hq
    obtain ⟨⟨k1, k2⟩, k3⟩ := h1 _ hqm
    refine ⟨⟨?_, k2⟩, fun p hp hsl => ?_⟩
    · show (if y.slot = s then t else if y.slot = t then s else y.slot) < S
      dsimp only at k1
      split
      · exact ht
      · split
        · exact hs
        · exact k1
    · have hp' := hP p hp
      have hsl : p.2.slot = (if y.slot = s then t else if y.slot = t then s else y.slot) := hsl
      have he : p.2.slot = y.slot := by
        split at hsl
        · omega
        · split at hsl
          · omega
          · exact hsl
      exact k3 p hp he
  · rw [List.pairwise_map]
    exact h2.imp fun {q r} hqr hsl => hqr (swP_inj hsl)
end
theorem zip_move (g : MPlace → MPlace) (l : List MMsg) (xs : List MPlace) : (pairs l xs).map (fun q => (q.1, g q.2)) = pairs l (xs.map g) := by
  unfold pairs
  rw [List.zip_map_right]
  rfl
/-- the place that greedy placing takes: a slot in which something of the same sender lies, else an empty one, if no other is free -/
structure GreedyAt (S : Nat) (P : Placed) (m : MMsg) (x : MPlace) : Prop where
  at_ : inP S m x
  free : freeP P m x
  kind : (∃ p ∈ P, p.2.slot = x.slot) ∨ ∀ y, inP S m y → freeP P m y → ∀ p ∈ P, p.2.slot ≠ y.slot
def Pows (P : Placed) (m : MMsg) : Prop := ∀ p ∈ P, 0 < p.1.every ∧ (p.1.every ∣ m.every ∨ m.every ∣ p.1.every)
def Above (m : MMsg) (l : List MMsg) : Prop := ∀ a ∈ l, 0 < a.every ∧ m.every ∣ a.every
theorem comp_cons {S : Nat} {P : Placed} {m : MMsg} {l : List MMsg} {x : MPlace} {xs : List MPlace} : Comp S P (m :: l) (x :: xs) ↔ inP S m x ∧ freeP P m x ∧ Comp S (P ++ [(m, x)]) l xs := Iff.rfl
theorem pairs_mem {l : List MMsg} {xs : List MPlace} {q : MMsg × MPlace} (h : q ∈ pairs l xs) : q.1 ∈ l := (List.of_mem_zip h).1
/-- greedy placing never spoils what can be placed -/
theorem greedy_ok {S : Nat} {P : Placed} {m : MMsg} {l : List MMsg} {x1 : MPlace} (hg : GreedyAt S P m x1) (hP : Pows P m) (hl : Above m l) (h : Can S P (m :: l)) : Can S (P ++ [(m, x1)]) l := by
  obtain ⟨xs, hx⟩ := h
  match xs, hx with
  | x0 :: xs, hx =>
    obtain ⟨hlen, hf⟩ := comp_fits.1 hx
    have hf : Fits S P ((m, x0) :: pairs l xs) := hf
    have hlen : xs.length = l.length := by simpa using hlen
    have key : ∀ ys, ys.length = l.length → Fits S P ((m, x1) :: pairs l ys) → Can S (P ++ [(m, x1)]) l := fun ys hy h => by
      have : Comp S P (m :: l) (x1 :: ys) := comp_fits.2 ⟨by simp [hy], h⟩
      exact ⟨ys, (comp_cons.1 this).2.2⟩
    rcases hg.kind with ⟨p, hp, hsl⟩ | hk
    · have hQ : ∀ q ∈ pairs l xs, 0 < q.1.every ∧ m.every ∣ q.1.every := fun q hq => hl _ (pairs_mem hq)
      have hs : ∀ q ∈ pairs l xs, q.2.slot = x1.slot → q.1.sender = m.sender := fun q hq hqs => by
        have k1 := (hg.free p hp hsl).1
        have k2 := ((hf.1 q (by simp [hq])).2 p hp (hsl.trans hqs.symm)).1
        exact k2.symm.trans k1
      have := exchange hP hQ hg.at_ hg.free hs hf
      rw [zip_move] at this
      exact key _ (by simp [hlen]) this
    · have hm0 := hf.1 (m, x0) (by simp)
      have e0 : ∀ p ∈ P, p.2.slot ≠ x0.slot := hk x0 hm0.1 hm0.2
      have e1 : ∀ p ∈ P, p.2.slot ≠ x1.slot := hk x1 hg.at_ hg.free
      have hf2 := swap_slots (s := x0.slot) (t := x1.slot) hm0.1.1 hg.at_.1 (fun p hp => ⟨e0 p hp, e1 p hp⟩) hf
      rw [List.map_cons, zip_move] at hf2
      have hsw : (swP x0.slot x1.slot x0).slot = x1.slot := by unfold swP; simp
      have hQ : ∀ q ∈ pairs l (xs.map (swP x0.slot x1.slot)), 0 < q.1.every ∧ m.every ∣ q.1.every := fun q hq => hl _ (pairs_mem hq)
      have hs : ∀ q ∈ pairs l (xs.map (swP x0.slot x1.slot)), q.2.slot = x1.slot → q.1.sender = m.sender := fun q hq hqs => by
        have h2 := hf2.2
        rw [List.pairwise_cons] at h2
        exact ((h2.1 q hq (hsw.trans hqs.symm)).1).symm
      have := exchange hP hQ hg.at_ hg.free hs hf2
      rw [zip_move] at this
      exact key _ (by simp [hlen]) this
theorem can_nil {S : Nat} {P : Placed} : Can S P [] := ⟨[], trivial⟩
theorem can_no {S : Nat} {P : Placed} {m : MMsg} {l : List MMsg} (h : ∀ x, inP S m x → ¬ freeP P m x) : ¬ Can S P (m :: l) := by
  rintro ⟨xs, hx⟩
  match xs, hx with
  | x :: xs, hx => exact h x hx.1 hx.2.1
theorem can_step {S : Nat} {P : Placed} {m : MMsg} {l : List MMsg} {x : MPlace} (h1 : inP S m x) (h2 : freeP P m x) (h : Can S (P ++ [(m, x)]) l) : Can S P (m :: l) := by
  obtain ⟨xs, hx⟩ := h
  exact ⟨x :: xs, h1, h2, hx⟩
theorem greedy_iff {S : Nat} {P : Placed} {m : MMsg} {l : List MMsg} {x : MPlace} (hg : GreedyAt S P m x) (hP : Pows P m) (hl : Above m l) : Can S P (m :: l) ↔ Can S (P ++ [(m, x)]) l :=
  ⟨greedy_ok hg hP hl, can_step hg.at_ hg.free⟩
open Classical

noncomputable def sumU (f : Nat → Nat) : Nat → Nat
  | 0 => 0
  | n + 1 => sumU f n + f n
theorem sumU_congr {f g : Nat → Nat} : ∀ {n : Nat}, (∀ i, i < n → f i = g i) → sumU f n = sumU g n
  | 0, _ => rfl
  | n + 1, h => by rw [sumU, sumU, sumU_congr fun i hi => h i (by omega), h n (by omega)]
theorem sumU_le {f g : Nat → Nat} : ∀ {n : Nat}, (∀ i, i < n → f i ≤ g i) → sumU f n ≤ sumU g n
  | 0, _ => Nat.le_refl _
  | n + 1, h => by
    have h1 := sumU_le (n := n) fun i hi => h i (by omega)
    have h2 := h n (by omega)
    rw [sumU, sumU]; omega
theorem sumU_const (c : Nat) : ∀ n, sumU (fun _ => c) n = n * c
  | 0 => by simp [sumU]
  | n + 1 => by rw [sumU, sumU_const c n, Nat.add_mul, Nat.one_mul]
theorem sumU_add (f g : Nat → Nat) : ∀ n, sumU (fun i => f i + g i) n = sumU f n + sumU g n
  | 0 => rfl
  | n + 1 => by rw [sumU, sumU, sumU, sumU_add f g n]; omega
theorem sumU_mul (f : Nat → Nat) (c : Nat) : ∀ n, sumU (fun i => f i * c) n = sumU f n * c
  | 0 => by simp [sumU]
  | n + 1 => by rw [sumU, sumU, sumU_mul f c n, Nat.add_mul]
theorem sumU_app (f : Nat → Nat) (a : Nat) : ∀ b, sumU f (a + b) = sumU f a + sumU (fun i => f (a + i)) b
  | 0 => rfl
  | b + 1 => by rw [← Nat.add_assoc, sumU, sumU, sumU_app f a b]; omega
theorem sumU_zero : ∀ n, sumU (fun _ => 0) n = 0
  | 0 => rfl
  | n + 1 => by rw [sumU, sumU_zero n]
theorem sumU_one {f : Nat → Nat} {b : Nat} : ∀ {n : Nat}, b < n → (∀ i, i < n → i ≠ b → f i = 0) → sumU f n = f b
  | 0, h, _ => by omega
  | n + 1, h, hf => by
    rw [sumU]
    by_cases e : b = n
    · subst e
      rw [sumU_congr (g := fun _ => 0) fun i hi => hf i (by omega) (by omega), sumU_zero]
      omega
    · rw [sumU_one (b := b) (by omega) fun i hi hn => hf i (by omega) hn, hf n (by omega) (by omega)]
      omega
theorem sumU_swap (f : Nat → Nat → Nat) (m : Nat) : ∀ n, sumU (fun i => sumU (f i) m) n = sumU (fun j => sumU (fun i => f i j) n) m
  | 0 => by rw [show (fun j => sumU (fun i => f i j) 0) = fun _ => 0 from rfl, sumU_zero]; rfl
  | n + 1 => by
    rw [sumU, sumU_swap f m n, ← sumU_add]
    rfl
/-- a sum over a list -/
def sumP {α : Type} (f : α → Nat) (l : List α) : Nat := (l.map f).foldr (· + ·) 0
theorem sumP_nil {α : Type} (f : α → Nat) : sumP f [] = 0 := rfl
theorem sumP_cons {α : Type} (f : α → Nat) (x : α) (l : List α) : sumP f (x :: l) = f x + sumP f l := rfl
theorem sumP_app {α : Type} (f : α → Nat) : ∀ (l k : List α), sumP f (l ++ k) = sumP f l + sumP f k
  | [], k => by rw [List.nil_append, sumP_nil]; omega
  | x :: l, k => by rw [List.cons_append, sumP_cons, sumP_cons, sumP_app f l k]; omega
theorem sumP_congr {α : Type} {f g : α → Nat} : ∀ {l : List α}, (∀ x ∈ l, f x = g x) → sumP f l = sumP g l
  | [], _ => rfl
  | x :: l, h => by rw [sumP_cons, sumP_cons, h x (by simp), sumP_congr fun y hy => h y (by simp [hy])]
theorem sumP_le {α : Type} {f g : α → Nat} : ∀ {l : List α}, (∀ x ∈ l, f x ≤ g x) → sumP f l ≤ sumP g l
  | [], _ => Nat.le_refl _
  | x :: l, h => by
    have h1 := h x (by simp)
    have h2 := sumP_le (l := l) fun y hy => h y (by simp [hy])
    rw [sumP_cons, sumP_cons]; omega
theorem sumP_map {α β : Type} (f : β → Nat) (g : α → β) : ∀ l : List α, sumP f (l.map g) = sumP (fun x => f (g x)) l
  | [] => rfl
  | x :: l => by rw [List.map_cons, sumP_cons, sumP_cons, sumP_map f g l]
theorem sumP_zero {α : Type} : ∀ l : List α, sumP (fun _ => 0) l = 0
  | [] => rfl
  | x :: l => by rw [sumP_cons, sumP_zero l]
theorem sumP_perm {α : Type} {f : α → Nat} {l k : List α} (h : l.Perm k) : sumP f l = sumP f k := by
  induction h with
  | nil => rfl
  | cons x _ ih => rw [sumP_cons, sumP_cons, ih]
  | swap x y l => rw [sumP_cons, sumP_cons, sumP_cons, sumP_cons]; omega
  | trans _ _ h1 h2 => exact h1.trans h2
theorem sumU_sumP {α : Type} (f : α → Nat → Nat) (n : Nat) : ∀ l : List α, sumU (fun i => sumP (fun x => f x i) l) n = sumP (fun x => sumU (f x) n) l
  | [] => by rw [sumP_nil, show (fun i => sumP (fun x => f x i) []) = fun _ => 0 from rfl, sumU_zero]
  | x :: l => by
    rw [sumP_cons, ← sumU_sumP f n l, ← sumU_add]
    rfl
/-- a class has its share of the cycles -/
theorem class_count {e b : Nat} (hb : b < e) : ∀ k, sumU (fun c => if c % e = b then 1 else 0) (e * k) = k
  | 0 => by rw [Nat.mul_zero]; rfl
  | k + 1 => by
    rw [Nat.mul_add, Nat.mul_one, sumU_app, class_count hb k, sumU_one (b := b) hb fun i hi hn => by
      rw [Nat.mul_add_mod, Nat.mod_eq_of_lt hi, if_neg hn]]
    rw [Nat.mul_add_mod, Nat.mod_eq_of_lt hb, if_pos rfl]
theorem class_share {C e b : Nat} (hb : b < e) (he : e ∣ C) : sumU (fun c => if c % e = b then 1 else 0) C = C / e := by
  obtain ⟨k, rfl⟩ := he
  rw [class_count hb, Nat.mul_div_cancel_left _ (by omega)]
structure OkP (S C : Nat) (P : Placed) : Prop where
  pair : P.Pairwise fun p q => apartM p.1 q.1 p.2 q.2
  each : ∀ p ∈ P, inP S p.1 p.2 ∧ p.1.every ∣ C ∧ 0 ≤ p.1.sender ∧ p.1.sender ≤ 1000
/-- what a slot's messages of a sender take of its cycles -/
noncomputable def wtP (C : Nat) (P : Placed) (s : Nat) (snd : Int) : Nat := sumP (fun p => if p.2.slot = s ∧ p.1.sender = snd then C / p.1.every else 0) P
noncomputable def cycS (C : Nat) (l : List MMsg) (snd : Int) : Nat := sumP (fun m => if m.sender = snd then C / m.every else 0) l
noncomputable def covP (P : Placed) (s : Nat) (snd : Int) (c : Nat) : Nat := sumP (fun p => if (p.2.slot = s ∧ p.1.sender = snd) ∧ c % p.1.every = p.2.base then 1 else 0) P
section
variable {S C : Nat} {P : Placed} {snd : Int} {s : Nat}
theorem cov_wt (h : OkP S C P) : sumU (covP P s snd) C = wtP C P s snd := by
  unfold covP wtP
  rw [sumU_sumP (fun p c => if (p.2.slot = s ∧ p.1.sender = snd) ∧ c % p.1.every = p.2.base then 1 else 0) C P]
  refine sumP_congr fun p hp => ?_
  obtain ⟨h1, h2, _⟩ := h.each p hp
  by_cases hk : p.2.slot = s ∧ p.1.sender = snd
  · rw [if_pos hk, ← class_share h1.2 h2]
    exact sumU_congr fun c _ => by simp [hk]
  · rw [if_neg hk, sumU_congr (g := fun _ => 0) fun c _ => if_neg fun e => hk e.1, sumU_zero]
theorem cov_le (h : P.Pairwise fun p q => apartM p.1 q.1 p.2 q.2) (hb : ∀ p ∈ P, p.2.base < p.1.every) (c : Nat) (hd : ∀ p ∈ P, ∀ q ∈ P, p.1.every ∣ q.1.every ∨ q.1.every ∣ p.1.every) : covP P s snd c ≤ 1 := by
  unfold covP
  induction P with
  | nil => rw [sumP_nil]; omega
  | cons p P ih =>
    rw [List.pairwise_cons] at h
    have ih := ih h.2 (fun q hq => hb q (by simp [hq])) (fun q hq r hr => hd q (by simp [hq]) r (by simp [hr]))
    rw [sumP_cons]
    split
    · rename_i hp
      have key : ∀ q ∈ P, ¬ ((q.2.slot = s ∧ q.1.sender = snd) ∧ c % q.1.every = q.2.base) := fun q hq hq' => by
        obtain ⟨k1, k2⟩ := h.1 q hq (hp.1.1.trans hq'.1.1.symm)
        refine k2 ?_
        rw [← hp.2, ← hq'.2]
        rcases hd p (by simp) q (by simp [hq]) with hdv | hdv
        · have hmin : min p.1.every q.1.every ∣ p.1.every ∧ min p.1.every q.1.every ∣ q.1.every := by
            rcases Nat.le_total p.1.every q.1.every with hle | hle
            · rw [Nat.min_eq_left hle]; exact ⟨Nat.dvd_refl _, hdv⟩
            · have := Nat.le_of_dvd (by have := hb q (by simp [hq]); omega) hdv
              rw [show p.1.every = q.1.every by omega, Nat.min_self]; exact ⟨Nat.dvd_refl _, Nat.dvd_refl _⟩
          rw [Nat.mod_mod_of_dvd _ hmin.1, Nat.mod_mod_of_dvd _ hmin.2]
        · have hmin : min p.1.every q.1.every ∣ p.1.every ∧ min p.1.every q.1.every ∣ q.1.every := by
            rcases Nat.le_total q.1.every p.1.every with hle | hle
            · rw [Nat.min_eq_right hle]; exact ⟨hdv, Nat.dvd_refl _⟩
            · have := Nat.le_of_dvd (by have := hb p (by simp); omega) hdv
              rw [show p.1.every = q.1.every by omega, Nat.min_self]; exact ⟨Nat.dvd_refl _, Nat.dvd_refl _⟩
          rw [Nat.mod_mod_of_dvd _ hmin.1, Nat.mod_mod_of_dvd _ hmin.2]
      rw [sumP_congr (g := fun _ => 0) fun q hq => if_neg (key q hq), sumP_zero]
      omega
    · rw [Nat.zero_add]; exact ih
end
theorem sumP_ge {α : Type} {f : α → Nat} : ∀ {l : List α} {x : α}, x ∈ l → f x ≤ sumP f l
  | y :: l, x, h => by
    rw [sumP_cons]
    rcases List.mem_cons.1 h with rfl | h
    · omega
    · have := sumP_ge (f := f) h
      omega
def owns (P : Placed) (s : Nat) (snd : Int) : Prop := ∃ p ∈ P, p.2.slot = s ∧ p.1.sender = snd
noncomputable def kN (S : Nat) (P : Placed) (snd : Int) : Nat := sumU (fun s => if owns P s snd then 1 else 0) S
def Divs (P : Placed) : Prop := ∀ p ∈ P, ∀ q ∈ P, p.1.every ∣ q.1.every ∨ q.1.every ∣ p.1.every
theorem same_sender {P : Placed} (h : P.Pairwise fun p q => apartM p.1 q.1 p.2 q.2) : ∀ p ∈ P, ∀ q ∈ P, p.2.slot = q.2.slot → p.1.sender = q.1.sender := by
  induction P with
  | nil => intro p hp; cases hp
  | cons a P ih =>
    rw [List.pairwise_cons] at h
    intro p hp q hq e
    rcases List.mem_cons.1 hp with h1 | h1
    · rcases List.mem_cons.1 hq with h2 | h2
      · rw [h1, h2]
      · subst h1; exact (h.1 q h2 e).1
    · rcases List.mem_cons.1 hq with h2 | h2
      · subst h2; exact ((h.1 p h1 e.symm).1).symm
      · exact ih h.2 p h1 q h2 e
section
variable {S C : Nat} {P : Placed} {snd : Int} {s : Nat} {m : MMsg} {x : MPlace}
theorem wt_le (h : OkP S C P) (hd : Divs P) : wtP C P s snd ≤ C := by
  rw [← cov_wt h]
  have := sumU_le (n := C) (f := covP P s snd) (g := fun _ => 1) fun c _ => cov_le h.pair (fun p hp => (h.each p hp).1.2) c hd
  rw [sumU_const] at this
  omega
theorem wt_zero (h : ¬ owns P s snd) : wtP C P s snd = 0 := by
  unfold wtP
  rw [sumP_congr (g := fun _ => 0) fun p hp => if_neg fun e => h ⟨p, hp, e.1, e.2⟩, sumP_zero]
theorem cyc_sum (h : OkP S C P) : cycS C (P.map (·.1)) snd = sumU (fun s => wtP C P s snd) S := by
  unfold cycS wtP
  rw [sumP_map, sumU_sumP (fun p s => if p.2.slot = s ∧ p.1.sender = snd then C / p.1.every else 0) S P]
  refine sumP_congr fun p hp => ?_
  have hlt := (h.each p hp).1.1
  rw [sumU_one (b := p.2.slot) hlt fun i _ hn => if_neg fun e => hn e.1.symm]
  simp
theorem cyc_le (h : OkP S C P) (hd : Divs P) : cycS C (P.map (·.1)) snd ≤ kN S P snd * C := by
  rw [cyc_sum h]
  unfold kN
  rw [← sumU_mul]
  refine sumU_le fun s _ => ?_
  split
  · rw [Nat.one_mul]; exact wt_le h hd
  · rename_i hn; rw [wt_zero hn, Nat.zero_mul]; exact Nat.le_refl 0
theorem cyc_full (h : OkP S C P) (hf : ∀ s, s < S → owns P s snd → wtP C P s snd = C) : cycS C (P.map (·.1)) snd = kN S P snd * C := by
  rw [cyc_sum h]
  unfold kN
  rw [← sumU_mul]
  refine sumU_congr fun s hs => ?_
  split
  · rename_i ho; rw [Nat.one_mul]; exact hf s hs ho
  · rename_i hn; rw [wt_zero hn, Nat.zero_mul]
theorem full_slot (h : OkP S C P) (hd : Divs P) (hm : 0 < m.every) (hPm : ∀ p ∈ P, p.1.every ∣ m.every) (ho : owns P s m.sender) (hn : ∀ b, b < m.every → ¬ freeP P m ⟨s, b⟩) : wtP C P s m.sender = C := by
  rw [← cov_wt h, sumU_congr (g := fun _ => 1) fun c _ => ?_, sumU_const, Nat.mul_one]
  have h1 := cov_le (s := s) (snd := m.sender) h.pair (fun p hp => (h.each p hp).1.2) c hd
  have h2 : 1 ≤ covP P s m.sender c := by
    have := hn (c % m.every) (Nat.mod_lt _ hm)
    unfold freeP at this
    rw [Classical.not_forall] at this
    obtain ⟨p, hp⟩ := this
    rw [Classical.not_imp] at hp
    obtain ⟨hp, hna⟩ := hp
    unfold apartM at hna
    rw [Classical.not_imp] at hna
    obtain ⟨hsl, hna⟩ := hna
    obtain ⟨q, hq, hqs, hqm⟩ := ho
    have hps : p.1.sender = m.sender := (same_sender h.pair p hp q hq (hsl.trans hqs.symm)).trans hqm
    have hbase : p.2.base % min p.1.every m.every = c % m.every % min p.1.every m.every := by
      by_cases e : p.2.base % min p.1.every m.every = c % m.every % min p.1.every m.every
      · exact e
      · exact absurd ⟨hps, e⟩ hna
    have hb := (h.each p hp).1.2
    have hle : p.1.every ≤ m.every := Nat.le_of_dvd hm (hPm p hp)
    rw [Nat.min_eq_left hle, Nat.mod_eq_of_lt hb, Nat.mod_mod_of_dvd _ (hPm p hp)] at hbase
    refine Nat.le_trans (Nat.le_of_eq ?_) (sumP_ge (f := fun p => if (p.2.slot = s ∧ p.1.sender = m.sender) ∧ c % p.1.every = p.2.base then 1 else 0) hp)
    show 1 = if (p.2.slot = s ∧ p.1.sender = m.sender) ∧ c % p.1.every = p.2.base then 1 else 0
    rw [if_pos ⟨⟨hsl, hps⟩, hbase.symm⟩]
  omega
structure GI (S C : Nat) (P : Placed) : Prop where
  ok : OkP S C P
  div : Divs P
  low : ∀ snd, kN S P snd = 0 ∨ (kN S P snd - 1) * C < cycS C (P.map (·.1)) snd
def upC (C n : Nat) : Nat := (n + C - 1) / C
noncomputable def needC (C : Nat) (l : List MMsg) : Nat := sumU (fun i => upC C (cycS C l (i : Int))) 1001
theorem up_of {C n k : Nat} (hC : 0 < C) (h1 : n ≤ k * C) (h2 : k = 0 ∨ (k - 1) * C < n) : upC C n = k := by
  unfold upC
  rcases h2 with rfl | h2
  · have : n = 0 := by omega
    subst this
    rw [Nat.zero_add]
    exact Nat.div_eq_of_lt (by omega)
  · have hk : 0 < k := by
      rcases Nat.eq_zero_or_pos k with rfl | hk
      · omega
      · exact hk
    obtain ⟨j, rfl⟩ : ∃ j, k = j + 1 := ⟨k - 1, by omega⟩
    rw [Nat.add_sub_cancel] at h2
    rw [Nat.add_mul, Nat.one_mul] at h1
    obtain ⟨r, hr⟩ : ∃ r, n + C - 1 = C * j + r ∧ C ≤ r ∧ r < 2 * C := ⟨n + C - 1 - C * j, by rw [Nat.mul_comm] at h1 h2; omega⟩
    obtain ⟨hr, hr1, hr2⟩ := hr
    rw [hr, Nat.mul_add_div hC]
    have : r / C = 1 := by
      rw [show r = C + (r - C) by omega, Nat.add_div_left _ hC, Nat.div_eq_of_lt (by omega)]
    omega
theorem up_mono {C a b : Nat} (h : a ≤ b) : upC C a ≤ upC C b := Nat.div_le_div_right (by omega)
theorem up_more {C n k : Nat} (hC : 0 < C) (h : k * C < n) : k + 1 ≤ upC C n := by
  unfold upC
  rw [Nat.le_div_iff_mul_le hC, Nat.add_mul, Nat.one_mul]
  omega
theorem up_is (hC : 0 < C) (h : GI S C P) : upC C (cycS C (P.map (·.1)) snd) = kN S P snd := up_of hC (cyc_le h.ok h.div) (h.low snd)
theorem need_slots (hC : 0 < C) (h : GI S C P) : needC C (P.map (·.1)) = sumU (fun s => if ∃ p ∈ P, p.2.slot = s then 1 else 0) S := by
  unfold needC
  rw [sumU_congr (g := fun i => kN S P (i : Int)) fun i _ => up_is hC h]
  unfold kN
  rw [sumU_swap]
  refine sumU_congr fun s _ => ?_
  by_cases hs : ∃ p ∈ P, p.2.slot = s
  · rw [if_pos hs]
    obtain ⟨p, hp, hps⟩ := hs
    obtain ⟨_, _, hr1, hr2⟩ := h.ok.each p hp
    have hi : ((p.1.sender.toNat : Nat) : Int) = p.1.sender := by omega
    rw [sumU_one (b := p.1.sender.toNat) (by omega) fun i _ hn => if_neg fun ⟨q, hq, hqs, hqi⟩ => hn (by
      have := same_sender h.ok.pair p hp q hq (hps.trans hqs.symm)
      omega), if_pos ⟨p, hp, hps, hi.symm⟩]
  · rw [if_neg hs, sumU_congr (g := fun _ => 0) fun i _ => if_neg fun ⟨q, hq, hqs, _⟩ => hs ⟨q, hq, hqs⟩, sumU_zero]
theorem need_le (hC : 0 < C) (h : GI S C P) : needC C (P.map (·.1)) ≤ S := by
  rw [need_slots hC h]
  have := sumU_le (n := S) (f := fun s => if ∃ p ∈ P, p.2.slot = s then 1 else 0) (g := fun _ => 1) fun s _ => by split <;> omega
  rw [sumU_const] at this
  omega
theorem owns_app : owns (P ++ [(m, x)]) s snd ↔ owns P s snd ∨ (x.slot = s ∧ m.sender = snd) := by
  unfold owns
  constructor
  · rintro ⟨p, hp, h⟩
    rcases List.mem_append.1 hp with hp | hp
    · exact .inl ⟨p, hp, h⟩
    · obtain rfl : p = (m, x) := by simpa using hp
      exact .inr h
  · rintro (⟨p, hp, h⟩ | h)
    · exact ⟨p, by simp [hp], h⟩
    · exact ⟨(m, x), by simp, h⟩
theorem cyc_app : cycS C ((P ++ [(m, x)]).map (·.1)) snd = cycS C (P.map (·.1)) snd + if m.sender = snd then C / m.every else 0 := by
  unfold cycS
  rw [List.map_append, sumP_app]
  rfl
theorem ok_app (h : OkP S C P) (hx : inP S m x) (hf : freeP P m x) (hm : m.every ∣ C ∧ 0 ≤ m.sender ∧ m.sender ≤ 1000) : OkP S C (P ++ [(m, x)]) := by
  refine ⟨?_, fun p hp => ?_⟩
  · rw [List.pairwise_append]
    refine ⟨h.pair, by simp, fun p hp q hq => ?_⟩
    obtain rfl : q = (m, x) := by simpa using hq
    exact hf p hp
  · rcases List.mem_append.1 hp with hp | hp
    · exact h.each p hp
    · obtain rfl : p = (m, x) := by simpa using hp
      exact ⟨hx, hm⟩
theorem div_app (h : Divs P) (hPm : ∀ p ∈ P, p.1.every ∣ m.every) : Divs (P ++ [(m, x)]) := fun p hp q hq => by
  rcases List.mem_append.1 hp with hp | hp
  · rcases List.mem_append.1 hq with hq | hq
    · exact h p hp q hq
    · obtain rfl : q = (m, x) := by simpa using hq
      exact .inl (hPm p hp)
  · obtain rfl : p = (m, x) := by simpa using hp
    rcases List.mem_append.1 hq with hq | hq
    · exact .inr (hPm q hq)
    · obtain rfl : q = (m, x) := by simpa using hq
      exact .inl (Nat.dvd_refl _)
theorem gi_step (hC : 0 < C) (h : GI S C P) (hg : GreedyAt S P m x) (hPm : ∀ p ∈ P, p.1.every ∣ m.every) (hm0 : 0 < m.every) (hm : m.every ∣ C ∧ 0 ≤ m.sender ∧ m.sender ≤ 1000) : GI S C (P ++ [(m, x)]) := by
  have hpos : 0 < C / m.every := Nat.div_pos (Nat.le_of_dvd hC hm.1) hm0
  refine ⟨ok_app h.ok hg.at_ hg.free hm, div_app h.div hPm, fun snd => ?_⟩
  rw [cyc_app]
  by_cases he : m.sender = snd
  · subst he
    rw [if_pos rfl]
    rcases hg.kind with ⟨p, hp, hsl⟩ | hk
    · have hk : kN S (P ++ [(m, x)]) m.sender = kN S P m.sender := by
        unfold kN
        refine sumU_congr fun s _ => ?_
        have hown : owns P x.slot m.sender := ⟨p, hp, hsl, (hg.free p hp hsl).1⟩
        by_cases hs : x.slot = s
        · subst hs
          rw [if_pos hown, if_pos (owns_app.2 (.inl hown))]
        · by_cases h2 : owns P s m.sender
          · rw [if_pos h2, if_pos (owns_app.2 (.inl h2))]
          · rw [if_neg h2, if_neg fun h3 => (owns_app.1 h3).elim h2 fun h4 => hs h4.1]
      rw [hk]
      rcases h.low m.sender with h1 | h1
      · exact .inl h1
      · exact .inr (by omega)
    · have hemp := hk x hg.at_ hg.free
      have hk2 : kN S (P ++ [(m, x)]) m.sender = kN S P m.sender + 1 := by
        unfold kN
        rw [sumU_congr (g := fun s => (if owns P s m.sender then 1 else 0) + (if s = x.slot then 1 else 0)) fun s _ => ?_, sumU_add, sumU_one (f := fun s => if s = x.slot then 1 else 0) (b := x.slot) hg.at_.1 fun i _ hn => if_neg hn, if_pos rfl]
        by_cases hs : s = x.slot
        · subst hs
          have h2 : ¬ owns P x.slot m.sender := fun ⟨p, hp, e, _⟩ => hemp p hp e
          rw [if_neg h2, if_pos (owns_app.2 (.inr ⟨rfl, rfl⟩)), if_pos rfl]
        · rw [if_neg hs, Nat.add_zero]
          by_cases h2 : owns P s m.sender
          · rw [if_pos h2, if_pos (owns_app.2 (.inl h2))]
          · rw [if_neg h2, if_neg fun h3 => (owns_app.1 h3).elim h2 fun h4 => hs h4.1.symm]
      have hfull := cyc_full (snd := m.sender) h.ok fun s hs ho => full_slot h.ok h.div hm0 hPm ho fun b hb hfr => by
        obtain ⟨p, hp, e, _⟩ := ho
        exact hk ⟨s, b⟩ ⟨hs, hb⟩ hfr p hp e
      right
      rw [hk2, Nat.add_sub_cancel, hfull]
      omega
  · rw [if_neg he, Nat.add_zero]
    have hk : kN S (P ++ [(m, x)]) snd = kN S P snd := by
      unfold kN
      refine sumU_congr fun s _ => ?_
      by_cases h2 : owns P s snd
      · rw [if_pos h2, if_pos (owns_app.2 (.inl h2))]
      · rw [if_neg h2, if_neg fun h3 => (owns_app.1 h3).elim h2 fun h4 => he h4.2]
    rw [hk]
    exact h.low snd
theorem greedy_or (S : Nat) (P : Placed) (m : MMsg) : (∃ x, GreedyAt S P m x) ∨ ∀ x, inP S m x → ¬ freeP P m x := by
  by_cases h1 : ∃ x, inP S m x ∧ freeP P m x ∧ ∃ p ∈ P, p.2.slot = x.slot
  · obtain ⟨x, a, b, c⟩ := h1
    exact .inl ⟨x, a, b, .inl c⟩
  · by_cases h2 : ∃ x, inP S m x ∧ freeP P m x
    · obtain ⟨x, a, b⟩ := h2
      exact .inl ⟨x, a, b, .inr fun y hy hf p hp e => h1 ⟨y, hy, hf, p, hp, e⟩⟩
    · exact .inr fun x a b => h2 ⟨x, a, b⟩
theorem cyc_mono {l k : List MMsg} : cycS C l snd ≤ cycS C (l ++ k) snd := by
  unfold cycS
  rw [sumP_app]
  omega
theorem need_mono {l k : List MMsg} : needC C l ≤ needC C (l ++ k) := sumU_le fun _ _ => up_mono cyc_mono
theorem need_no (hC : 0 < C) (h : GI S C P) (hn : ∀ x, inP S m x → ¬ freeP P m x) (hPm : ∀ p ∈ P, p.1.every ∣ m.every) (hm0 : 0 < m.every) (hm : m.every ∣ C ∧ 0 ≤ m.sender ∧ m.sender ≤ 1000) : S < needC C (P.map (·.1) ++ [m]) := by
  have hpos : 0 < C / m.every := Nat.div_pos (Nat.le_of_dvd hC hm.1) hm0
  have hall : sumU (fun s => if ∃ p ∈ P, p.2.slot = s then 1 else 0) S = S := by
    rw [sumU_congr (g := fun _ => 1) fun s hs => ?_, sumU_const, Nat.mul_one]
    by_cases he : ∃ p ∈ P, p.2.slot = s
    · rw [if_pos he]
    · exact absurd (fun p hp e => absurd ⟨p, hp, e⟩ he) (hn ⟨s, 0⟩ ⟨hs, hm0⟩)
  have hfull := cyc_full (snd := m.sender) h.ok fun s hs ho => full_slot h.ok h.div hm0 hPm ho fun b hb hfr => hn ⟨s, b⟩ ⟨hs, hb⟩ hfr
  have hsl := need_slots hC h
  rw [hall] at hsl
  have hi : ((m.sender.toNat : Nat) : Int) = m.sender := by omega
  have key : needC C (P.map (·.1)) + 1 ≤ needC C (P.map (·.1) ++ [m]) := by
    have h1 : sumU (fun i => upC C (cycS C (P.map (·.1)) (i : Int)) + if i = m.sender.toNat then 1 else 0) 1001 ≤ needC C (P.map (·.1) ++ [m]) := by
      unfold needC
      refine sumU_le fun i _ => ?_
      by_cases e : i = m.sender.toNat
      · subst e
        rw [if_pos rfl, hi, up_is hC h]
        refine up_more hC ?_
        rw [show cycS C (P.map (·.1) ++ [m]) m.sender = cycS C (P.map (·.1)) m.sender + C / m.every by unfold cycS; rw [sumP_app, sumP_cons, sumP_nil, if_pos rfl]; omega, hfull]
        omega
      · rw [if_neg e, Nat.add_zero]
        exact up_mono cyc_mono
    rw [sumU_add, sumU_one (f := fun i => if i = m.sender.toNat then 1 else 0) (b := m.sender.toNat) (by omega) fun i _ hn => if_neg hn, if_pos rfl] at h1
    exact h1
  omega
/-- messages can be placed just if there are slots enough -/
theorem can_need (hC : 0 < C) : ∀ {l : List MMsg} {P : Placed}, GI S C P → l.Pairwise (fun a b => a.every ∣ b.every) → (∀ a ∈ l, 0 < a.every ∧ a.every ∣ C ∧ 0 ≤ a.sender ∧ a.sender ≤ 1000) → (∀ p ∈ P, ∀ a ∈ l, p.1.every ∣ a.every) → (Can S P l ↔ needC C (P.map (·.1) ++ l) ≤ S)
  | [], P, h, _, _, _ => ⟨fun _ => by rw [List.append_nil]; exact need_le hC h, fun _ => can_nil⟩
  | m :: l, P, h, hs, hl, hPl => by
    rw [List.pairwise_cons] at hs
    obtain ⟨hm0, hm⟩ := hl m (by simp)
    have hPm : ∀ p ∈ P, p.1.every ∣ m.every := fun p hp => hPl p hp m (by simp)
    rcases greedy_or S P m with ⟨x, hg⟩ | hn
    · have hP : Pows P m := fun p hp => ⟨by have := (h.ok.each p hp).1.2; omega, .inl (hPm p hp)⟩
      have hA : Above m l := fun a ha => ⟨(hl a (by simp [ha])).1, hs.1 a ha⟩
      rw [greedy_iff hg hP hA, can_need hC (gi_step hC h hg hPm hm0 hm) hs.2 (fun a ha => hl a (by simp [ha])) fun p hp a ha => ?_]
      · rw [List.map_append, List.append_assoc]
        rfl
      · rcases List.mem_append.1 hp with hp | hp
        · exact hPl p hp a (by simp [ha])
        · obtain rfl : p = (m, x) := by simpa using hp
          exact hs.1 a ha
    · refine ⟨fun hc => absurd hc (can_no hn), fun hle => ?_⟩
      have h1 := need_no hC h hn hPm hm0 hm
      have h2 := need_mono (C := C) (l := P.map (·.1) ++ [m]) (k := l)
      rw [List.append_assoc] at h2
      have h3 : needC C (P.map (·.1) ++ ([m] ++ l)) = needC C (P.map (·.1) ++ m :: l) := rfl
      omega
theorem gi_nil (S C : Nat) : GI S C [] := by
  refine ⟨⟨List.Pairwise.nil, fun p hp => (by cases hp)⟩, fun p hp => (by cases hp), fun snd => .inl ?_⟩
  unfold kN
  rw [sumU_congr (g := fun _ => 0) fun s _ => if_neg fun ⟨p, hp, _⟩ => (by cases hp), sumU_zero]
theorem need_perm {l k : List MMsg} (h : l.Perm k) : needC C l = needC C k := sumU_congr fun i _ => by unfold cycS; rw [sumP_perm h]
end
/-- the cycles of a class, k of them, as bits -/
def maskK (e b : Nat) : Nat → Nat
  | 0 => 0
  | k + 1 => maskK e b k ||| 2 ^ (b + k * e)
theorem mask_bit {e b c : Nat} : ∀ {k : Nat}, (maskK e b k).testBit c = true ↔ ∃ j, j < k ∧ c = b + j * e
  | 0 => by simp [maskK]
  | k + 1 => by
    rw [maskK, Nat.testBit_or, Bool.or_eq_true, mask_bit (k := k), Nat.testBit_two_pow]
    constructor
    · rintro (⟨j, hj, h⟩ | h)
      · exact ⟨j, by omega, h⟩
      · exact ⟨k, by omega, (of_decide_eq_true h).symm⟩
    · rintro ⟨j, hj, h⟩
      by_cases e' : j = k
      · subst e'
        exact .inr (decide_eq_true h.symm)
      · exact .inl ⟨j, by omega, h⟩
theorem mask_lt {e b : Nat} : ∀ {k n : Nat}, (k = 0 ∨ b + (k - 1) * e < n) → maskK e b k < 2 ^ n
  | 0, n, _ => Nat.two_pow_pos n
  | k + 1, n, h => by
    have h1 : b + k * e < n := by
      rcases h with h | h
      · omega
      · rwa [Nat.add_sub_cancel] at h
    rw [maskK]
    refine Nat.or_lt_two_pow (mask_lt (k := k) ?_) (Nat.pow_lt_pow_right (by omega) h1)
    rcases Nat.eq_zero_or_pos k with hk | hk
    · exact .inl hk
    · right
      have : (k - 1) * e ≤ k * e := Nat.mul_le_mul_right _ (by omega)
      omega
/-- when the class has been gone through -/
theorem mask_class {C e b k c : Nat} (hb : b < e) (h1 : k = 0 ∨ b + (k - 1) * e < C) (h2 : C ≤ b + k * e) : (maskK e b k).testBit c = true ↔ c < C ∧ c % e = b := by
  rw [mask_bit]
  constructor
  · rintro ⟨j, hj, rfl⟩
    have : j * e ≤ (k - 1) * e := Nat.mul_le_mul_right _ (by omega)
    refine ⟨by omega, ?_⟩
    rw [Nat.add_mul_mod_self_right, Nat.mod_eq_of_lt hb]
  · rintro ⟨hc, hm⟩
    refine ⟨c / e, ?_, ?_⟩
    · rw [Nat.div_lt_iff_lt_mul (by omega)]
      have h3 := Nat.mod_add_div c e
      rw [hm, Nat.mul_comm] at h3
      rcases Nat.lt_or_ge c (k * e) with h | h
      · exact h
      · have h4 : k ≤ c / e := (Nat.le_div_iff_mul_le (by omega)).2 h
        have h5 : k * e ≤ c / e * e := Nat.mul_le_mul_right _ h4
        omega
    · have h3 := Nat.mod_add_div c e
      rw [hm, Nat.mul_comm] at h3
      exact h3.symm
theorem and_zero {a b : Nat} : a &&& b = 0 ↔ ∀ c, ¬ (a.testBit c = true ∧ b.testBit c = true) := by
  constructor
  · intro h c ⟨h1, h2⟩
    have : (a &&& b).testBit c = true := by rw [Nat.testBit_and, h1, h2]; rfl
    rw [h, Nat.zero_testBit] at this
    cases this
  · intro h
    apply Nat.eq_of_testBit_eq
    intro c
    rw [Nat.zero_testBit, Nat.testBit_and]
    have := h c
    cases h1 : a.testBit c <;> cases h2 : b.testBit c <;> simp_all
/-- a table of what is placed: of each slot the sender (-1: none) and the taken cycles -/
structure RepT (S C : Nat) (P : Placed) (snd : Nat → Int) (tk : Nat → Nat) : Prop where
  own : ∀ p ∈ P, snd p.2.slot = p.1.sender
  none : ∀ s, s < S → (∀ p ∈ P, p.2.slot ≠ s) → snd s = -1
  bit : ∀ s, s < S → ∀ c, (tk s).testBit c = true ↔ c < C ∧ ∃ p ∈ P, p.2.slot = s ∧ c % p.1.every = p.2.base
section
variable {S C : Nat} {P : Placed} {m : MMsg} {x : MPlace} {snd : Nat → Int} {tk : Nat → Nat} {M : Nat}
theorem rep_free (h : RepT S C P snd tk) (hP : ∀ p ∈ P, inP S p.1 p.2 ∧ p.1.every ∣ C ∧ 0 ≤ p.1.sender) (hpow : Pows P m) (hx : inP S m x) (hm : m.every ∣ C) (hC : 0 < C) (hM : ∀ c, M.testBit c = true ↔ c < C ∧ c % m.every = x.base) :
    ((snd x.slot < 0 ∨ snd x.slot = m.sender) ∧ tk x.slot &&& M = 0) ↔ freeP P m x := by
  have hmC : m.every ≤ C := Nat.le_of_dvd hC hm
  rw [and_zero]
  constructor
  · rintro ⟨h1, h2⟩ p hp hsl
    have h3 := h.own p hp
    rw [hsl] at h3
    have h4 := (hP p hp).2.2
    refine ⟨?_, fun e => ?_⟩
    · rcases h1 with h1 | h1
      · omega
      · rw [← h3, h1]
    · obtain ⟨hpe, hdv⟩ := hpow p hp
      have hpb : p.2.base < p.1.every := (hP p hp).1.2
      have hxb : x.base < m.every := hx.2
      rcases hdv with hdv | hdv
      · have hle := Nat.le_of_dvd (by omega) hdv
        rw [Nat.min_eq_left hle, Nat.mod_eq_of_lt hpb] at e
        refine h2 x.base ⟨(h.bit x.slot hx.1 x.base).2 ⟨by omega, p, hp, hsl, e.symm⟩, (hM x.base).2 ⟨by omega, Nat.mod_eq_of_lt hxb⟩⟩
      · have hle := Nat.le_of_dvd hpe hdv
        rw [Nat.min_eq_right hle, Nat.mod_eq_of_lt hxb] at e
        have hpC : p.2.base < C := by have := Nat.le_of_dvd hC (hP p hp).2.1; omega
        exact h2 p.2.base ⟨(h.bit x.slot hx.1 p.2.base).2 ⟨hpC, p, hp, hsl, Nat.mod_eq_of_lt hpb⟩, (hM p.2.base).2 ⟨hpC, e⟩⟩
  · intro hf
    refine ⟨?_, fun c ⟨h1, h2⟩ => ?_⟩
    · by_cases he : ∃ p ∈ P, p.2.slot = x.slot
      · obtain ⟨p, hp, hsl⟩ := he
        right
        rw [← hsl, h.own p hp]
        exact (hf p hp hsl).1
      · left
        rw [h.none x.slot hx.1 fun p hp e => he ⟨p, hp, e⟩]
        omega
    · obtain ⟨_, p, hp, hsl, hpb⟩ := (h.bit x.slot hx.1 c).1 h1
      obtain ⟨_, hxb⟩ := (hM c).1 h2
      refine (hf p hp hsl).2 ?_
      rw [← hpb, ← hxb]
      obtain ⟨hpe, hdv⟩ := hpow p hp
      have hmin : min p.1.every m.every ∣ p.1.every ∧ min p.1.every m.every ∣ m.every := by
        have hm0 : 0 < m.every := by have := hx.2; omega
        rcases hdv with hdv | hdv
        · rw [Nat.min_eq_left (Nat.le_of_dvd hm0 hdv)]; exact ⟨Nat.dvd_refl _, hdv⟩
        · rw [Nat.min_eq_right (Nat.le_of_dvd hpe hdv)]; exact ⟨hdv, Nat.dvd_refl _⟩
      rw [Nat.mod_mod_of_dvd _ hmin.1, Nat.mod_mod_of_dvd _ hmin.2]
theorem rep_put (h : RepT S C P snd tk) (hf : freeP P m x) (hM : ∀ c, M.testBit c = true ↔ c < C ∧ c % m.every = x.base) :
    RepT S C (P ++ [(m, x)]) (fun s => if s = x.slot then m.sender else snd s) (fun s => if s = x.slot then tk s ||| M else tk s) := by
  refine ⟨fun p hp => ?_, fun s hs hn => ?_, fun s hs c => ?_⟩
  · rcases List.mem_append.1 hp with hp | hp
    · (try dsimp only)
      split
      · rename_i e; exact ((hf p hp e).1).symm
      · exact h.own p hp
    · obtain rfl : p = (m, x) := by simpa using hp
      exact if_pos rfl
  · (try dsimp only)
    rw [if_neg fun e => hn (m, x) (by simp) e.symm]
    exact h.none s hs fun p hp => hn p (by simp [hp])
  · (try dsimp only)
    split
    · rename_i e
      subst e
      rw [Nat.testBit_or, Bool.or_eq_true, h.bit _ hs, hM]
      constructor
      · rintro (⟨h1, p, hp, r⟩ | ⟨h1, h2⟩)
        · exact ⟨h1, p, by simp [hp], r⟩
        · exact ⟨h1, (m, x), by simp, rfl, h2⟩
      · rintro ⟨h1, p, hp, r⟩
        rcases List.mem_append.1 hp with hp | hp
        · exact .inl ⟨h1, p, hp, r⟩
        · obtain rfl : p = (m, x) := by simpa using hp
          exact .inr ⟨h1, r.2⟩
    · rename_i e
      rw [h.bit _ hs]
      constructor
      · rintro ⟨h1, p, hp, r⟩
        exact ⟨h1, p, by simp [hp], r⟩
      · rintro ⟨h1, p, hp, r⟩
        rcases List.mem_append.1 hp with hp | hp
        · exact ⟨h1, p, hp, r⟩
        · obtain rfl : p = (m, x) := by simpa using hp
          exact absurd r.1.symm e
theorem rep_nil : RepT S C [] (fun _ => -1) (fun _ => 0) := ⟨fun p hp => (by cases hp), fun _ _ _ => rfl, fun s _ c => by simp⟩
end
/-- one place comes before another one -/
def ltP (x y : MPlace) : Prop := x.slot < y.slot ∨ (x.slot = y.slot ∧ x.base < y.base)
theorem ltP_three (x y : MPlace) : ltP x y ∨ x = y ∨ ltP y x := by
  obtain ⟨a, b⟩ := x
  obtain ⟨c, d⟩ := y
  unfold ltP
  dsimp only
  rcases Nat.lt_trichotomy a c with h | h | h
  · exact .inl (.inl h)
  · subst h
    rcases Nat.lt_trichotomy b d with h | h | h
    · exact .inl (.inr ⟨rfl, h⟩)
    · subst h; exact .inr (.inl rfl)
    · exact .inr (.inr (.inr ⟨rfl, h⟩))
  · exact .inr (.inr (.inl h))
/-- the first schedule: each place is the first one with which the rest can be placed -/
def FirstR (S : Nat) : Placed → List MMsg → List MPlace → Prop
  | _, [], [] => True
  | P, m :: l, x :: xs => (inP S m x ∧ freeP P m x ∧ Can S (P ++ [(m, x)]) l) ∧ (∀ y, ltP y x → inP S m y → freeP P m y → ¬ Can S (P ++ [(m, y)]) l) ∧ FirstR S (P ++ [(m, x)]) l xs
  | _, _, _ => False
theorem first_len {S : Nat} : ∀ {l : List MMsg} {P : Placed} {xs : List MPlace}, FirstR S P l xs → xs.length = l.length
  | [], _, [], _ => rfl
  | [], _, _ :: _, h => h.elim
  | _ :: _, _, [], h => h.elim
  | _ :: l, _, _ :: xs, h => by rw [List.length_cons, List.length_cons, first_len h.2.2]
theorem first_unique {S : Nat} : ∀ {l : List MMsg} {P : Placed} {xs ys : List MPlace}, FirstR S P l xs → FirstR S P l ys → xs = ys
  | [], _, [], [], _, _ => rfl
  | [], _, _ :: _, _, h, _ => h.elim
  | [], _, [], _ :: _, _, h => h.elim
  | _ :: _, _, [], _, h, _ => h.elim
  | _ :: _, _, _ :: _, [], _, h => h.elim
  | m :: l, P, x :: xs, y :: ys, h1, h2 => by
    rcases ltP_three x y with h | rfl | h
    · exact absurd h1.1.2.2 (h2.2.1 x h h1.1.1 h1.1.2.1)
    · rw [first_unique h1.2.2 h2.2.2]
    · exact absurd h2.1.2.2 (h1.2.1 y h h2.1.1 h2.1.2.1)
theorem first_comp {S : Nat} : ∀ {l : List MMsg} {P : Placed} {xs : List MPlace}, FirstR S P l xs → Comp S P l xs
  | [], _, [], _ => trivial
  | [], _, _ :: _, h => h.elim
  | _ :: _, _, [], h => h.elim
  | _ :: _, _, _ :: _, h => ⟨h.1.1, h.1.2.1, first_comp h.2.2⟩
/-- where one schedule first differs from another one, it comes before it -/
def earlyP : List MPlace → List MPlace → Prop
  | x :: xs, y :: ys => ltP x y ∨ (x = y ∧ earlyP xs ys)
  | _, _ => False
theorem first_least {S : Nat} : ∀ {l : List MMsg} {P : Placed} {xs ys : List MPlace}, FirstR S P l xs → Comp S P l ys → ¬ earlyP ys xs
  | [], _, [], [], _, _ => fun h => h.elim
  | [], _, _ :: _, _, h, _ => h.elim
  | [], _, [], _ :: _, _, h => h.elim
  | _ :: _, _, [], _, h, _ => h.elim
  | _ :: _, _, _ :: _, [], _, h => h.elim
  | m :: l, P, x :: xs, y :: ys, h1, h2 => by
    rintro (h | ⟨rfl, h⟩)
    · exact h1.2.1 y h h2.1 h2.2.1 ⟨ys, h2.2.2⟩
    · exact first_least h1.2.2 h2.2.2 h
end Go.Proofs.Ytlbbhlkbhegegaa
