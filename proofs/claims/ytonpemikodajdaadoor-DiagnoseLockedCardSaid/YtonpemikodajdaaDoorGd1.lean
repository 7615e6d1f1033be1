/- Plain: sets of suspects as numbers; the best test for a set. -/
namespace Go.Proofs.YtonpemikodajdaaDoor

structure MProbe where
  cost : Int
  outs : List Int
structure MCase where
  weights : List Int
  tests : List MProbe
/-- the suspects of a set, in ascending order -/
def bitsOf (s : Nat) : List Nat := (List.range 12).filter s.testBit
/-- the suspects of a list with an outcome -/
def partL (outs : List Int) (o : Nat) : List Nat → Nat
  | [] => 0
  | i :: r => if outs.getD i 0 = o then 2 ^ i ||| partL outs o r else partL outs o r
def partS (outs : List Int) (s o : Nat) : Nat := partL outs o (bitsOf s)
def partsTo (outs : List Int) (s : Nat) : Nat → Nat
  | 0 => 0
  | o + 1 => partsTo outs s o + if 0 < partS outs s o then 1 else 0
def weightL (ws : List Int) : List Nat → Int
  | [] => 0
  | i :: r => ws.getD i 0 + weightL ws r
def weightS (c : MCase) (s : Nat) : Int := weightL c.weights (bitsOf s)
def costS (B : Nat → Int × Int) (outs : List Int) (s : Nat) (c0 : Int) : Nat → Int
  | 0 => c0
  | o + 1 => if 0 < partS outs s o then costS B outs s c0 o + (B (partS outs s o)).2 else costS B outs s c0 o
/-- the best of the first k tests -/
def pickS (B : Nat → Int × Int) (c : MCase) (s : Nat) : Nat → Int × Int
  | 0 => (-1, 0)
  | k + 1 =>
    if partsTo (c.tests.getD k ⟨0, []⟩).outs s 4 < 2 then pickS B c s k
    else if (pickS B c s k).1 < 0 ∨ costS B (c.tests.getD k ⟨0, []⟩).outs s ((c.tests.getD k ⟨0, []⟩).cost * weightS c s) 4 < (pickS B c s k).2 then ((k : Int), costS B (c.tests.getD k ⟨0, []⟩).outs s ((c.tests.getD k ⟨0, []⟩).cost * weightS c s) 4)
    else pickS B c s k
def bestF (c : MCase) : Nat → Nat → Int × Int
  | 0, _ => (-1, 0)
  | u + 1, s => pickS (bestF c u) c s c.tests.length
def bestS (c : MCase) (s : Nat) : Int × Int := bestF c (s + 1) s
def exC : MCase := ⟨[4, 2, 1], [⟨3, [0, 1, 1]⟩, ⟨1, [0, 0, 1]⟩]⟩
theorem exC_best : bestS exC 7 = (0, 24) := by decide +kernel

theorem mem_bitsOf {s i : Nat} : i ∈ bitsOf s ↔ i < 12 ∧ s.testBit i = true := by
  unfold bitsOf
  rw [List.mem_filter, List.mem_range]
theorem partL_bit (outs : List Int) (o j : Nat) : ∀ l : List Nat, (partL outs o l).testBit j = decide (j ∈ l ∧ outs.getD j 0 = o)
  | [] => by simp [partL]
  | i :: r => by
    rw [partL]
    have ih := partL_bit outs o j r
    by_cases h : outs.getD i 0 = o
    · rw [if_pos h, Nat.testBit_or, ih, Nat.testBit_two_pow]
      by_cases e : i = j
      · subst e
        rw [decide_eq_true rfl, Bool.true_or]
        exact (decide_eq_true ⟨List.mem_cons_self .., h⟩).symm
      · rw [decide_eq_false e, Bool.false_or]
        exact decide_eq_decide.2 ⟨fun ⟨h1, h2⟩ => ⟨List.mem_cons_of_mem _ h1, h2⟩, fun ⟨h1, h2⟩ => ⟨(List.mem_cons.1 h1).resolve_left fun e2 => e e2.symm, h2⟩⟩
    · rw [if_neg h, ih]
      exact decide_eq_decide.2 ⟨fun ⟨h1, h2⟩ => ⟨List.mem_cons_of_mem _ h1, h2⟩, fun ⟨h1, h2⟩ => ⟨(List.mem_cons.1 h1).resolve_left fun e2 => h (e2 ▸ h2), h2⟩⟩
theorem bits_eq {s t : Nat} (hs : s < 4096) (ht : t < 4096) (h : ∀ i, i < 12 → s.testBit i = t.testBit i) : s = t := by
  apply Nat.eq_of_testBit_eq
  intro i
  rcases Nat.lt_or_ge i 12 with h1 | h1
  · exact h i h1
  · have e : 4096 ≤ 2 ^ i := by
      have : 2 ^ 12 ≤ 2 ^ i := Nat.pow_le_pow_right (by omega) h1
      exact this
    rw [Nat.testBit_lt_two_pow (by omega), Nat.testBit_lt_two_pow (by omega)]
theorem partL_lt (outs : List Int) (o : Nat) : ∀ l : List Nat, (∀ i, i ∈ l → i < 12) → partL outs o l < 4096
  | [], _ => by simp [partL]
  | i :: r, h => by
    rw [partL]
    have ih := partL_lt outs o r fun j hj => h j (List.mem_cons_of_mem _ hj)
    by_cases e : outs.getD i 0 = o
    · rw [if_pos e]
      have h1 := h i (List.mem_cons_self ..)
      have : 2 ^ i < 2 ^ 12 := Nat.pow_lt_pow_right (by omega) h1
      exact Nat.or_lt_two_pow (n := 12) this ih
    · rw [if_neg e]; exact ih
theorem partS_lt (outs : List Int) (s o : Nat) : partS outs s o < 4096 := partL_lt outs o _ fun _ hi => (mem_bitsOf.1 hi).1
theorem partS_bit (outs : List Int) (s o j : Nat) (hs : s < 4096) : (partS outs s o).testBit j = (s.testBit j && decide (outs.getD j 0 = o)) := by
  unfold partS
  rw [partL_bit]
  by_cases h : j < 12
  · rcases hb : s.testBit j
    · have : ¬ j ∈ bitsOf s := fun h2 => by have := (mem_bitsOf.1 h2).2; rw [hb] at this; cases this
      simp [this]
    · have : j ∈ bitsOf s := mem_bitsOf.2 ⟨h, hb⟩
      simp [this]
  · have e : 4096 ≤ 2 ^ j := by
      have : 2 ^ 12 ≤ 2 ^ j := Nat.pow_le_pow_right (by omega) (by omega)
      exact this
    rw [Nat.testBit_lt_two_pow (x := s) (by omega)]
    have : ¬ j ∈ bitsOf s := fun h2 => h (mem_bitsOf.1 h2).1
    simp [this]
theorem partS_le {outs : List Int} {s o : Nat} (hs : s < 4096) : partS outs s o ≤ s := by
  have : partS outs s o = partS outs s o &&& s := by
    apply Nat.eq_of_testBit_eq
    intro i
    rw [Nat.testBit_and, partS_bit _ _ _ _ hs]
    cases s.testBit i <;> simp
  rw [this]
  exact Nat.and_le_right
/-- two outcomes that occur: none of them holds all -/
theorem partS_ne {outs : List Int} {s o p : Nat} (hs : s < 4096) (hop : o ≠ p) (hp : 0 < partS outs s p) : partS outs s o < s := by
  rcases Nat.lt_or_eq_of_le (partS_le (outs := outs) (o := o) hs) with h | h
  · exact h
  · exfalso
    have hne : partS outs s p ≠ 0 := by omega
    obtain ⟨j, hj⟩ := Nat.exists_testBit_of_ne_zero hne
    have h1 := partS_bit outs s p j hs
    rw [hj] at h1
    have h2 := partS_bit outs s o j hs
    rw [h] at h2
    rcases hb : s.testBit j
    · rw [hb] at h1; cases h1
    · rw [hb] at h1 h2
      simp at h1 h2
      omega
theorem partsTo_ex {outs : List Int} {s : Nat} : ∀ {k : Nat}, 0 < partsTo outs s k → ∃ p, p < k ∧ 0 < partS outs s p
  | 0, h => by simp [partsTo] at h
  | k + 1, h => by
    rw [partsTo] at h
    by_cases e : 0 < partS outs s k
    · exact ⟨k, by omega, e⟩
    · rw [if_neg e] at h
      obtain ⟨p, hp, h2⟩ := partsTo_ex (outs := outs) (s := s) (k := k) (by omega)
      exact ⟨p, by omega, h2⟩
theorem partsTo_two {outs : List Int} {s o : Nat} : ∀ {k : Nat}, 2 ≤ partsTo outs s k → ∃ p, p < k ∧ p ≠ o ∧ 0 < partS outs s p
  | 0, h => by simp [partsTo] at h
  | k + 1, h => by
    rw [partsTo] at h
    by_cases e : 0 < partS outs s k
    · by_cases e2 : k = o
      · rw [if_pos e] at h
        obtain ⟨p, hp, h2⟩ := partsTo_ex (outs := outs) (s := s) (k := k) (by omega)
        exact ⟨p, by omega, by omega, h2⟩
      · exact ⟨k, by omega, e2, e⟩
    · rw [if_neg e] at h
      obtain ⟨p, hp, h2⟩ := partsTo_two (outs := outs) (s := s) (o := o) (k := k) (by omega)
      exact ⟨p, by omega, h2⟩
theorem costS_congr {B B' : Nat → Int × Int} {outs : List Int} {s : Nat} {c0 : Int} : ∀ {k : Nat}, (∀ o, o < k → B (partS outs s o) = B' (partS outs s o)) → costS B outs s c0 k = costS B' outs s c0 k
  | 0, _ => rfl
  | k + 1, h => by rw [costS, costS, costS_congr (k := k) fun o ho => h o (by omega), h k (by omega)]
theorem pickS_congr {B B' : Nat → Int × Int} {c : MCase} {s : Nat} (hs : s < 4096) (h : ∀ t, t < s → B t = B' t) : ∀ {k : Nat}, pickS B c s k = pickS B' c s k
  | 0 => rfl
  | k + 1 => by
    rw [pickS, pickS, pickS_congr hs h (k := k)]
    by_cases e : partsTo (c.tests.getD k ⟨0, []⟩).outs s 4 < 2
    · rw [if_pos e, if_pos e]
    · rw [if_neg e, if_neg e]
      have : ∀ c0, costS B (c.tests.getD k ⟨0, []⟩).outs s c0 4 = costS B' (c.tests.getD k ⟨0, []⟩).outs s c0 4 := fun c0 => costS_congr fun o _ => by
        obtain ⟨p, _, hp, h2⟩ := partsTo_two (o := o) (show 2 ≤ partsTo (c.tests.getD k ⟨0, []⟩).outs s 4 by omega)
        exact h _ (partS_ne hs (fun e => hp e.symm) h2)
      rw [this]
theorem bestF_enough (c : MCase) : ∀ (s : Nat), s < 4096 → ∀ u, s < u → bestF c u s = bestS c s := by
  intro s
  induction s using Nat.strongRecOn with
  | ind s ih =>
    intro hs u hu
    obtain ⟨v, rfl⟩ : ∃ v, u = v + 1 := ⟨u - 1, by omega⟩
    unfold bestS
    rw [bestF, bestF]
    exact pickS_congr hs fun t ht => by rw [ih t ht (by omega) v (by omega), ih t ht (by omega) s ht]
theorem bestS_eq (c : MCase) {s : Nat} (hs : s < 4096) : bestS c s = pickS (bestS c) c s c.tests.length := by
  unfold bestS
  rw [bestF]
  exact pickS_congr hs fun t ht => bestF_enough c t (by omega) s ht
end Go.Proofs.YtonpemikodajdaaDoor
