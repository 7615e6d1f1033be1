/- Plain: the first test of an order that parts a set; how many parts a row of rows has. -/
import Derived.Test.YtonpemikodajdaaDoorOv
namespace Go.Proofs.YtonpemikodajdaaDoor
open Go.RowKit

/-- test number i of an order, and of all tests behind it -/
def tstAt (c : MCase) (ord : List Int) (i : Nat) : Nat := if i < ord.length then (((ord.getD i 0).tmod c.tests.length + c.tests.length).tmod c.tests.length).toNat else i - ord.length
def chFrom (c : MCase) (ord : List Int) (s : Nat) : Nat → Nat → Int
  | 0, _ => -1
  | n + 1, i => if 2 ≤ partsTo (testAt c (tstAt c ord i : Int)).outs s 4 then (tstAt c ord i : Int) else chFrom c ord s n (i + 1)
def chT (c : MCase) (ord : List Int) (s : Nat) : Int := chFrom c ord s (ord.length + c.tests.length) 0
section
variable {c : MCase} {ord : List Int}
theorem tst_lt (hm : ord.length = 0 ∨ 0 < c.tests.length) {i : Nat} (hi : i < ord.length + c.tests.length) : tstAt c ord i < c.tests.length := by
  unfold tstAt
  split
  · rename_i h
    have hp : 0 < (c.tests.length : Int) := by omega
    have h1 := Int.lt_tmod_of_pos (ord.getD i 0) hp
    have h2 := Int.tmod_lt_of_pos (ord.getD i 0) hp
    have h3 : 0 ≤ ((ord.getD i 0).tmod c.tests.length + c.tests.length).tmod c.tests.length := Int.tmod_nonneg _ (by omega)
    have h4 := Int.tmod_lt_of_pos ((ord.getD i 0).tmod c.tests.length + c.tests.length) hp
    omega
  · omega
theorem chFrom_hit {s n i : Nat} (h : 2 ≤ partsTo (testAt c (tstAt c ord i : Int)).outs s 4) : chFrom c ord s (n + 1) i = (tstAt c ord i : Int) := by rw [chFrom, if_pos h]
theorem chFrom_miss {s n i : Nat} (h : ¬ 2 ≤ partsTo (testAt c (tstAt c ord i : Int)).outs s 4) : chFrom c ord s (n + 1) i = chFrom c ord s n (i + 1) := by rw [chFrom, if_neg h]
theorem chFrom_node {s : Nat} : ∀ {n i : Nat}, 0 ≤ chFrom c ord s n i → ∃ j, i ≤ j ∧ j < i + n ∧ chFrom c ord s n i = (tstAt c ord j : Int) ∧ 2 ≤ partsTo (testAt c (tstAt c ord j : Int)).outs s 4
  | 0, i, h => by rw [chFrom] at h; exact absurd h (by decide)
  | n + 1, i, h => by
    by_cases h2 : 2 ≤ partsTo (testAt c (tstAt c ord i : Int)).outs s 4
    · exact ⟨i, Nat.le_refl _, by omega, chFrom_hit h2, h2⟩
    · rw [chFrom_miss h2] at h ⊢
      obtain ⟨j, h3, h4, h5⟩ := chFrom_node h
      exact ⟨j, by omega, by omega, h5⟩
theorem chFrom_leaf {s : Nat} : ∀ {n i : Nat}, chFrom c ord s n i < 0 → chFrom c ord s n i = -1 ∧ ∀ j, i ≤ j → j < i + n → ¬ 2 ≤ partsTo (testAt c (tstAt c ord j : Int)).outs s 4
  | 0, i, _ => ⟨rfl, fun j h1 h2 => by omega⟩
  | n + 1, i, h => by
    by_cases h2 : 2 ≤ partsTo (testAt c (tstAt c ord i : Int)).outs s 4
    · rw [chFrom_hit h2] at h; omega
    · rw [chFrom_miss h2] at h ⊢
      obtain ⟨h3, h4⟩ := chFrom_leaf h
      refine ⟨h3, fun j h5 h6 => ?_⟩
      by_cases e : j = i
      · subst e; exact h2
      · exact h4 j (by omega) (by omega)
theorem chT_ok (hm : ord.length = 0 ∨ 0 < c.tests.length) : ChoiceOk c (chT c ord) := by
  refine ⟨fun s _ _ h => ?_, fun s _ h => ?_⟩
  · obtain ⟨h1, h2⟩ := chFrom_leaf h
    refine ⟨h1, alikeB_iff.2 fun i t hi ht => .inr ?_⟩
    have h3 := h2 (ord.length + i) (by omega) (by omega)
    have e : tstAt c ord (ord.length + i) = i := by unfold tstAt; rw [if_neg (by omega)]; omega
    rw [e, testAt_of ht] at h3
    omega
  · obtain ⟨j, _, h2, h3, h4⟩ := chFrom_node h
    have h5 := tst_lt hm (i := j) (by omega)
    have h3 : chT c ord s = (tstAt c ord j : Int) := h3
    rw [h3]
    exact ⟨by omega, h4⟩
end
/-- how many of the rows have something -/
def manyL (outs : List Int) (l : List Nat) : Nat := (if (partN outs 0 l).length = 0 then 0 else 1) + (if (partN outs 1 l).length = 0 then 0 else 1) + (if (partN outs 2 l).length = 0 then 0 else 1) + (if (partN outs 3 l).length = 0 then 0 else 1)
theorem manyL_le (outs : List Int) (l : List Nat) : manyL outs l ≤ 4 := by
  unfold manyL
  repeat' split
  all_goals omega
theorem partN_snoc {outs : List Int} {l : List Nat} {x o q : Nat} (hx : outs.getD x 0 = (o : Int)) : partN outs q (l ++ [x]) = if q = o then partN outs q l ++ [x] else partN outs q l := by
  unfold partN
  rw [List.filter_append]
  by_cases e : q = o
  · subst e
    rw [if_pos rfl]
    congr 1
    exact List.filter_cons_of_pos (by rw [hx]; simp)
  · rw [if_neg e]
    have : [x].filter (fun i => decide (outs.getD i 0 = (q : Int))) = [] := List.filter_cons_of_neg (by rw [hx]; simp; omega)
    rw [this, List.append_nil]
theorem manyL_snoc {outs : List Int} {l : List Nat} {x o : Nat} (ho : o < 4) (hx : outs.getD x 0 = (o : Int)) : manyL outs (l ++ [x]) = manyL outs l + if (partN outs o l).length = 0 then 1 else 0 := by
  unfold manyL
  rw [partN_snoc hx, partN_snoc hx, partN_snoc hx, partN_snoc hx]
  rcases (show o = 0 ∨ o = 1 ∨ o = 2 ∨ o = 3 by omega) with rfl | rfl | rfl | rfl
  all_goals
    simp only [if_true, if_neg (show ¬ (0 = 1) by decide), if_neg (show ¬ (0 = 2) by decide), if_neg (show ¬ (0 = 3) by decide), if_neg (show ¬ (1 = 2) by decide), if_neg (show ¬ (1 = 3) by decide), if_neg (show ¬ (2 = 0) by decide), if_neg (show ¬ (2 = 1) by decide), if_neg (show ¬ (2 = 3) by decide), if_neg (show ¬ (3 = 0) by decide), if_neg (show ¬ (3 = 1) by decide), if_neg (show ¬ (3 = 2) by decide), List.length_append, List.length_singleton, Nat.add_eq_zero_iff, Nat.one_ne_zero, and_false, if_false]
    repeat' split
    all_goals omega
theorem manyL_bits {outs : List Int} {s : Nat} (hs : s < 4096) : manyL outs (bitsOf s) = partsTo outs s 4 := by
  have h : ∀ o, (if (partN outs o (bitsOf s)).length = 0 then 0 else 1) = if 0 < partS outs s o then 1 else 0 := fun o => by
    rw [partN_bits hs]
    rcases Nat.eq_zero_or_pos (partS outs s o) with e | e
    · rw [e, bitsOf_zero]; rfl
    · have := bitsOf_pos e (partS_lt outs s o)
      rw [if_neg (by omega), if_pos e]
  unfold manyL
  rw [h, h, h, h]
  show _ = 0 + _ + _ + _ + _
  rw [Nat.zero_add]
theorem manyL_nil (outs : List Int) : manyL outs [] = 0 := rfl
end Go.Proofs.YtonpemikodajdaaDoor
