/- Plain: cuts of a table of capacities, a push along a path, what is left, greatest flows. -/
namespace Go.Proofs.Ytegclodchhcbaaa

def sumN (f : Nat → Int) : Nat → Int
  | 0 => 0
  | n + 1 => sumN f n + f n
theorem sumN_le {f g : Nat → Int} : ∀ {n : Nat}, (∀ k, k < n → f k ≤ g k) → sumN f n ≤ sumN g n
  | 0, _ => Int.le_refl _
  | n + 1, h => by
    have h1 := sumN_le (n := n) fun k hk => h k (by omega)
    have h2 := h n (by omega)
    rw [sumN, sumN]; omega
theorem sumN_congr {f g : Nat → Int} {n : Nat} (h : ∀ k, k < n → f k = g k) : sumN f n = sumN g n :=
  Int.le_antisymm (sumN_le fun k hk => Int.le_of_eq (h k hk)) (sumN_le fun k hk => Int.le_of_eq (h k hk).symm)
theorem sumN_add (f g : Nat → Int) : ∀ n, sumN (fun k => f k + g k) n = sumN f n + sumN g n
  | 0 => rfl
  | n + 1 => by rw [sumN, sumN, sumN, sumN_add f g n]; omega
theorem sumN_zero : ∀ n, sumN (fun _ => 0) n = 0
  | 0 => rfl
  | n + 1 => by rw [sumN, sumN_zero n]; rfl
theorem sumN_nn {f : Nat → Int} {n : Nat} (h : ∀ k, k < n → 0 ≤ f k) : 0 ≤ sumN f n := by
  have := sumN_le (f := fun _ => 0) (g := f) h
  rw [sumN_zero] at this; exact this
theorem sumN_ge {f : Nat → Int} : ∀ {n j : Nat}, (∀ k, k < n → 0 ≤ f k) → j < n → f j ≤ sumN f n
  | 0, _, _, h => by omega
  | n + 1, j, h, hj => by
    rw [sumN]
    by_cases e : j = n
    · subst e
      have := sumN_nn (n := j) fun k hk => h k (by omega)
      omega
    · have := sumN_ge (n := n) (j := j) (fun k hk => h k (by omega)) (by omega)
      have := h n (by omega)
      omega
/-- one entry of a sum is another one -/
theorem sumN_upd {f g : Nat → Int} : ∀ {n j : Nat}, j < n → (∀ k, k < n → k ≠ j → g k = f k) → sumN g n = sumN f n + (g j - f j)
  | 0, _, h, _ => by omega
  | n + 1, j, hj, h => by
    rw [sumN, sumN]
    by_cases e : j = n
    · subst e
      rw [sumN_congr (n := j) (f := g) (g := f) fun k hk => h k (by omega) (by omega)]
      omega
    · rw [sumN_upd (n := n) (j := j) (by omega) fun k hk hn => h k (by omega) hn, h n (by omega) (by omega)]
      omega
theorem sumN_eq_zero {f : Nat → Int} {n : Nat} (h : ∀ k, k < n → f k = 0) : sumN f n = 0 := by
  rw [sumN_congr h, sumN_zero]
abbrev Tab := Nat → Nat → Int
def upd (c : Tab) (i k : Nat) (v : Int) : Tab := fun x y => if x = i ∧ y = k then v else c x y
def edge (c : Tab) (S : Nat → Bool) (i k : Nat) : Int := if S i = true ∧ S k = false then c i k else 0
def cutN (N : Nat) (c : Tab) (S : Nat → Bool) : Int := sumN (fun i => sumN (fun k => edge c S i k) N) N
theorem upd_same (c : Tab) (i k : Nat) (v : Int) : upd c i k v i k = v := by unfold upd; rw [if_pos ⟨rfl, rfl⟩]
theorem upd_ne {c : Tab} {i k x y : Nat} {v : Int} (h : ¬ (x = i ∧ y = k)) : upd c i k v x y = c x y := by unfold upd; rw [if_neg h]
theorem cut_upd {N : Nat} {c : Tab} {S : Nat → Bool} {i k : Nat} {v : Int} (hi : i < N) (hk : k < N) : cutN N (upd c i k v) S = cutN N c S + (if S i = true ∧ S k = false then v - c i k else 0) := by
  unfold cutN
  rw [sumN_upd (f := fun x => sumN (fun y => edge c S x y) N) (j := i) hi fun x _ hx => sumN_congr fun y _ => by unfold edge; rw [upd_ne (fun h => hx h.1)]]
  rw [sumN_upd (f := fun y => edge c S i y) (g := fun y => edge (upd c i k v) S i y) (j := k) hk fun y _ hy => by unfold edge; rw [upd_ne (fun h => hy h.2)]]
  unfold edge
  rw [upd_same]
  split <;> omega
def chi (S : Nat → Bool) (i : Nat) : Int := if S i = true then 1 else 0
/-- a push from i to k -/
def push (c : Tab) (i k : Nat) (d : Int) : Tab := upd (upd c i k (c i k - d)) k i (upd c i k (c i k - d) k i + d)
theorem cut_push {N : Nat} {c : Tab} {S : Nat → Bool} {i k : Nat} {d : Int} (hi : i < N) (hk : k < N) : cutN N (push c i k d) S = cutN N c S - d * (chi S i - chi S k) := by
  unfold push
  rw [cut_upd hk hi, cut_upd hi hk]
  unfold chi
  rcases hsi : S i <;> rcases hsk : S k <;> simp <;> omega
theorem push_other {c : Tab} {i k x y : Nat} {d : Int} (h1 : ¬ (x = i ∧ y = k)) (h2 : ¬ (x = k ∧ y = i)) : push c i k d x y = c x y := by
  unfold push
  rw [upd_ne h2, upd_ne h1]
theorem push_nn {c : Tab} {i k : Nat} {d : Int} (hc : ∀ x y, 0 ≤ c x y) (hd : 0 ≤ d) (hle : d ≤ c i k) (x y : Nat) : 0 ≤ push c i k d x y := by
  unfold push
  have h1 : ∀ x y, 0 ≤ upd c i k (c i k - d) x y := fun x y => by
    unfold upd
    split
    · omega
    · exact hc x y
  unfold upd at h1 ⊢
  have h2 := h1 k i
  have h3 := h1 x y
  split
  · omega
  · exact h3
theorem push_pair (c : Tab) (i k : Nat) (d : Int) (x y : Nat) : push c i k d x y + push c i k d y x = c x y + c y x := by
  unfold push upd
  by_cases h1 : x = i <;> by_cases h2 : y = k <;> by_cases h3 : x = k <;> by_cases h4 : y = i <;> simp_all <;> omega
/-- from where each place is reached from a place -/
structure BackOk (N : Nat) (c : Tab) (b : Nat) (back : Nat → Int) : Prop where
  self : back b = b
  nn : ∀ x, x < N → -1 ≤ back x ∧ back x < N
  from' : ∃ rank : Nat → Nat, ∀ x, x < N → 0 ≤ back x → x ≠ b → 0 ≤ back (back x).toNat ∧ rank (back x).toNat < rank x ∧ 0 < c (back x).toNat x
  shut : ∀ x y, x < N → y < N → 0 ≤ back x → 0 < c x y → 0 ≤ back y
/-- what is left of a table when `sum` went from b to e -/
structure LeftF (N : Nat) (c : Tab) (b e : Nat) (c' : Tab) (sum : Int) : Prop where
  nn : ∀ x y, 0 ≤ c' x y
  pair : ∀ x y, c' x y + c' y x = c x y + c y x
  cut : ∀ S : Nat → Bool, S b = true → S e = false → cutN N c' S = cutN N c S - sum
theorem LeftF.refl {N : Nat} {c : Tab} {b e : Nat} (h : ∀ x y, 0 ≤ c x y) : LeftF N c b e c 0 := ⟨h, fun _ _ => rfl, fun _ _ _ => by omega⟩
theorem cut_nn {N : Nat} {c : Tab} (h : ∀ x y, 0 ≤ c x y) (S : Nat → Bool) : 0 ≤ cutN N c S :=
  sumN_nn fun i _ => sumN_nn fun k _ => by unfold edge; split; exact h i k; exact Int.le_refl _
theorem cut_zero {N : Nat} {c : Tab} {S : Nat → Bool} (h : ∀ x y, x < N → y < N → S x = true → S y = false → c x y = 0) : cutN N c S = 0 :=
  sumN_eq_zero fun i hi => sumN_eq_zero fun k hk => by
    unfold edge
    split
    · rename_i hh; exact h i k hi hk hh.1 hh.2
    · rfl
theorem zero_cut {N : Nat} {c : Tab} {S : Nat → Bool} (hc : ∀ x y, 0 ≤ c x y) (h : cutN N c S = 0) {x y : Nat} (hx : x < N) (hy : y < N) (hsx : S x = true) (hsy : S y = false) : c x y = 0 := by
  have h1 : sumN (fun k => edge c S x k) N ≤ cutN N c S := sumN_ge (f := fun i => sumN (fun k => edge c S i k) N) (fun i _ => sumN_nn fun k _ => by unfold edge; split; exact hc i k; exact Int.le_refl _) hx
  have h2 : edge c S x y ≤ sumN (fun k => edge c S x k) N := sumN_ge (f := fun k => edge c S x k) (fun k _ => by unfold edge; split; exact hc x k; exact Int.le_refl _) hy
  have h3 : edge c S x y = c x y := by unfold edge; rw [if_pos ⟨hsx, hsy⟩]
  have := hc x y
  omega
/-- the way back: each place on it, up to `at` -/
structure Way (N : Nat) (c : Tab) (b e : Nat) (back : Nat → Int) (rank : Nat → Nat) (d : Int) (c' : Tab) (at' : Nat) : Prop where
  lt : at' < N
  on : 0 ≤ back at'
  nn : ∀ x y, 0 ≤ c' x y
  pair : ∀ x y, c' x y + c' y x = c x y + c y x
  same : ∀ x y, rank x ≤ rank at' → rank y ≤ rank at' → c' x y = c x y
  cut : ∀ S : Nat → Bool, cutN N c' S = cutN N c S - d * (chi S at' - chi S e)
theorem Way.start {N : Nat} {c : Tab} {b e : Nat} {back : Nat → Int} {rank : Nat → Nat} {d : Int} (hc : ∀ x y, 0 ≤ c x y) (he : e < N) (h : 0 ≤ back e) : Way N c b e back rank d c e :=
  ⟨he, h, hc, fun _ _ => rfl, fun _ _ _ _ => rfl, fun S => by rw [Int.sub_self, Int.mul_zero, Int.sub_zero]⟩
theorem Way.step {N : Nat} {c : Tab} {b e : Nat} {back : Nat → Int} {rank : Nat → Nat} {d : Int} {c' : Tab} {at' : Nat} (h : Way N c b e back rank d c' at') (hN : back at' < N) (hd : 0 ≤ d) (hle : d ≤ c (back at').toNat at')
    (hr : 0 ≤ back (back at').toNat ∧ rank (back at').toNat < rank at') : Way N c b e back rank d (push c' (back at').toNat at' d) (back at').toNat := by
  have hon := h.on
  have hlt := h.lt
  have hb : (back at').toNat < N := by omega
  have hs : c' (back at').toNat at' = c (back at').toNat at' := h.same _ _ (by omega) (by omega)
  refine ⟨hb, hr.1, push_nn h.nn hd (by omega), fun x y => (push_pair _ _ _ _ x y).trans (h.pair x y), fun x y hx hy => ?_, fun S => ?_⟩
  · rw [push_other (fun hh => by rw [hh.2] at hy; omega) (fun hh => by rw [hh.1] at hx; omega)]
    exact h.same x y (by omega) (by omega)
  · rw [cut_push hb hlt, h.cut S]
    have : d * (chi S (back at').toNat - chi S at') + d * (chi S at' - chi S e) = d * (chi S (back at').toNat - chi S e) := by rw [← Int.mul_add]; congr 1; omega
    omega
theorem LeftF.pushed {N : Nat} {c c0 : Tab} {b e : Nat} {back : Nat → Int} {rank : Nat → Nat} {d sum : Int} {c' : Tab} (h : LeftF N c0 b e c sum) (hw : Way N c b e back rank d c' b) : LeftF N c0 b e c' (sum + d) := by
  refine ⟨hw.nn, fun x y => (hw.pair x y).trans (h.pair x y), fun S hb he => ?_⟩
  rw [hw.cut S, h.cut S hb he]
  unfold chi
  rw [if_pos hb, if_neg (by rw [he]; decide)]
  omega
/-- the greatest flow, and its set: of all sets with the least cut the one within all others -/
structure Most (N : Nat) (c : Tab) (b e : Nat) (sum : Int) (R : Nat → Bool) : Prop where
  src : R b = true
  snk : R e = false
  is : cutN N c R = sum
  le : ∀ S : Nat → Bool, S b = true → S e = false → sum ≤ cutN N c S
  least : ∀ S : Nat → Bool, S b = true → S e = false → cutN N c S = sum → ∀ x, x < N → R x = true → S x = true
def seen (back : Nat → Int) (x : Nat) : Bool := decide (0 ≤ back x)
/-- what a closed set says -/
theorem BackOk.within {N : Nat} {c : Tab} {b : Nat} {back : Nat → Int} (h : BackOk N c b back) {S : Nat → Bool} (hb : S b = true) (hS : ∀ x y, x < N → y < N → S x = true → 0 < c x y → S y = true) (x : Nat) (hx : x < N) (hr : 0 ≤ back x) : S x = true := by
  obtain ⟨rank, hrk⟩ := h.from'
  have key : ∀ n x, x < N → 0 ≤ back x → rank x ≤ n → S x = true := fun n => by
    induction n with
    | zero =>
      intro x hx hr hn
      by_cases e : x = b
      · rw [e]; exact hb
      · have := (hrk x hx hr e).2.1; omega
    | succ n ih =>
      intro x hx hr hn
      by_cases e : x = b
      · rw [e]; exact hb
      · obtain ⟨h1, h2, h3⟩ := hrk x hx hr e
        have hl := (h.nn x hx).2
        exact hS _ x (by omega) hx (ih _ (by omega) h1 (by omega)) h3
  exact key _ x hx hr (Nat.le_refl _)
theorem LeftF.most {N : Nat} {c c' : Tab} {b e : Nat} {sum : Int} {back : Nat → Int} (h : LeftF N c b e c' sum) (hb : BackOk N c' b back) (he : back e < 0) : Most N c b e sum (seen back) := by
  have s1 : seen back b = true := by unfold seen; rw [decide_eq_true_iff, hb.self]; omega
  have s2 : seen back e = false := by unfold seen; rw [decide_eq_false_iff_not]; omega
  have h0 : cutN N c' (seen back) = 0 := cut_zero fun x y hx hy hsx hsy => by
    unfold seen at hsx hsy
    rw [decide_eq_true_iff] at hsx
    rw [decide_eq_false_iff_not] at hsy
    have h1 := h.nn x y
    rcases Int.lt_or_le 0 (c' x y) with hlt | hge
    · exact absurd (hb.shut x y hx hy hsx hlt) hsy
    · omega
  refine ⟨s1, s2, by have := h.cut _ s1 s2; omega, fun S hSb hSe => by have := h.cut S hSb hSe; have := cut_nn (N := N) h.nn S; omega, fun S hSb hSe hS x hx hr => ?_⟩
  have hz : cutN N c' S = 0 := by have := h.cut S hSb hSe; omega
  refine hb.within hSb (fun x y hx hy hsx hlt => ?_) x hx (by unfold seen at hr; exact of_decide_eq_true hr)
  rcases hsy : S y with _ | _
  · have := zero_cut h.nn hz hx hy hsx hsy; omega
  · rfl
end Go.Proofs.Ytegclodchhcbaaa
