/- Plain: a case with one more test. -/
import Derived.Test.YtonpemikodajdaaDoorTl
namespace Go.Proofs.YtonpemikodajdaaDoor
open Go.RowKit

def moreC (c : MCase) (p : MProbe) : MCase := ⟨c.weights, c.tests ++ [p]⟩
section
variable {c : MCase} {p : MProbe}
theorem more_len : (moreC c p).tests.length = c.tests.length + 1 := by
  show (c.tests ++ [p]).length = _
  rw [List.length_append, List.length_singleton]
theorem more_at {i : Nat} (hi : i < c.tests.length) : (moreC c p).tests[i]? = c.tests[i]? := by
  show (c.tests ++ [p])[i]? = _
  rw [List.getElem?_append_left hi]
theorem alike_out (s : Nat) : alikeB (moreC c p) s (c.tests.length : Int) = alikeB c s (-1) := by
  rw [Bool.eq_iff_iff, alikeB_iff, alikeB_iff]
  constructor
  · intro h i t hi ht
    rcases h i t (by rw [more_len]; omega) (by rw [more_at hi]; exact ht) with h1 | h1
    · omega
    · exact .inr h1
  · intro h i t hi ht
    rw [more_len] at hi
    by_cases e : i = c.tests.length
    · subst e; exact .inl rfl
    · have hi2 : i < c.tests.length := by omega
      rw [more_at hi2] at ht
      rcases h i t hi2 ht with h1 | h1
      · omega
      · exact .inr h1
theorem addS_congr {c c' : MCase} {out out' : Int} (h : ∀ s, alikeB c s out = alikeB c' s out') (L : List Nat) (i : Nat) : addS c out L i = addS c' out' L i := by
  unfold addS
  simp only [h]
theorem groupsS_congr {c c' : MCase} {out out' : Int} (h : ∀ s, alikeB c s out = alikeB c' s out') : ∀ i, groupsS c out i = groupsS c' out' i
  | 0 => rfl
  | i + 1 => by rw [groupsS, groupsS, groupsS_congr h i, addS_congr h]
theorem ral_less {a b : Nat} (h : ralikeB (moreC c p) a b (-1) = true) : ralikeB c a b (-1) = true := ralikeB_iff.2 fun i t hi ht => by
  have h1 := ralikeB_iff.1 h i t (by rw [more_len]; omega) (by rw [more_at hi]; exact ht)
  exact h1
/-- each group of the case with one more test lies in one of the case -/
theorem more_inside (hc : CaseOk c) (hm : CaseOk (moreC c p)) {i : Nat} (hi : i < (groupsS (moreC c p) (-1) c.weights.length).length) :
    ∃ k, k < (groupsS c (-1) c.weights.length).length ∧ ∀ b, ((groupsS (moreC c p) (-1) c.weights.length).getD i 0).testBit b = true → ((groupsS c (-1) c.weights.length).getD k 0).testBit b = true := by
  have gx := groups_ok hc (-1) (Nat.le_refl c.weights.length)
  have gy : GrpOk (moreC c p) (-1) c.weights.length (groupsS (moreC c p) (-1) c.weights.length) := groups_ok hm (-1) (Nat.le_refl (moreC c p).weights.length)
  obtain ⟨a, ha⟩ := Nat.exists_testBit_of_ne_zero (gy.ne i hi)
  have han := bit_lt (gy.lt i hi) ha
  obtain ⟨k, hk, hka⟩ := gx.cov a han
  refine ⟨k, hk, fun b hb => ?_⟩
  have hab := ral_less (gy.al i hi a b ha hb)
  obtain ⟨k', hk', hkb⟩ := gx.cov b (bit_lt (gy.lt i hi) hb)
  by_cases e : k = k'
  · rw [e]; exact hkb
  · have := gx.un k k' hk hk' e a b hka hkb
    rw [hab] at this
    cases this
/-- as many groups: the same are alike -/
theorem more_alike (hc : CaseOk c) (hm : CaseOk (moreC c p)) (hl : (groupsS c (-1) c.weights.length).length = (groupsS (moreC c p) (-1) c.weights.length).length) {s : Nat} (hs : s < 2 ^ c.weights.length) (h : alikeB c s (-1) = true) : alikeB (moreC c p) s (-1) = true := by
  have h1 : groupsS (moreC c p) (c.tests.length : Int) c.weights.length = groupsS c (-1) c.weights.length := groupsS_congr alike_out _
  have h2 := (groups_fewer hm (c.tests.length : Int) (n := c.weights.length) (Nat.le_refl _)).2 (by rw [h1]; exact hl)
  rw [h1] at h2
  have gx := groups_ok hc (-1) (Nat.le_refl c.weights.length)
  have gy : GrpOk (moreC c p) (-1) c.weights.length (groupsS (moreC c p) (-1) c.weights.length) := groups_ok hm (-1) (Nat.le_refl (moreC c p).weights.length)
  rw [h2] at gy
  refine (alikeB_set hm (s := s) hs).2 fun a b ha hb => ?_
  have hab := (alikeB_set hc hs).1 h a b ha hb
  obtain ⟨k, hk, hka⟩ := gx.cov a (bit_lt hs ha)
  obtain ⟨k', hk', hkb⟩ := gx.cov b (bit_lt hs hb)
  by_cases e : k = k'
  · subst e
    exact gy.al k hk a b hka hkb
  · have := gx.un k k' hk hk' e a b hka hkb
    rw [hab] at this
    cases this
theorem costS_mono {B B' : Nat → Int × Int} {outs : List Int} {s : Nat} {c0 : Int} (h : ∀ o, 0 < partS outs s o → (B (partS outs s o)).2 ≤ (B' (partS outs s o)).2) : ∀ k, costS B outs s c0 k ≤ costS B' outs s c0 k
  | 0 => Int.le_refl _
  | k + 1 => by
    have ih := costS_mono (c0 := c0) h k
    rw [costS, costS]
    by_cases e : 0 < partS outs s k
    · rw [if_pos e, if_pos e]
      have := h k e
      omega
    · rw [if_neg e, if_neg e]; exact ih
theorem best_more (hc : CaseOk c) (hm : CaseOk (moreC c p)) (hl : (groupsS c (-1) c.weights.length).length = (groupsS (moreC c p) (-1) c.weights.length).length) : ∀ (s : Nat), s < 2 ^ c.weights.length → (bestS (moreC c p) s).2 ≤ (bestS c s).2 := by
  intro s
  induction s using Nat.strongRecOn with
  | ind s ih =>
    intro hs
    have hs12 := pow12 hc.n2 hs
    by_cases h : (bestS c s).1 < 0
    · rw [best_leaf hs12 (more_alike hc hm hl hs (best_none hs12 h))]
      rw [bestS_eq c hs12] at h ⊢
      rw [(pickS_none h).1]
      exact Int.le_refl _
    · have hcap := bestS_cap hc hs
      have h2 := bestS_parts hs12 (c := c) (s := s) (by omega)
      obtain ⟨t, ht⟩ : ∃ t : Nat, (bestS c s).1 = (t : Int) := ⟨(bestS c s).1.toNat, by omega⟩
      have htl : t < c.tests.length := by omega
      have hval : (bestS c s).2 = costS (bestS c) (testAt c (t : Int)).outs s ((testAt c (t : Int)).cost * weightS c s) 4 := by
        have h9 : 0 ≤ (pickS (bestS c) c s c.tests.length).1 := by rw [← bestS_eq c hs12]; omega
        have := pickS_value h9
        rw [← bestS_eq c hs12, ht] at this
        exact this
      rw [ht] at h2
      have hta : testAt c (t : Int) = c.tests[t] := testAt_of (List.getElem?_eq_getElem htl)
      have htm : (moreC c p).tests.getD t ⟨0, []⟩ = c.tests[t] := by
        rw [List.getD_eq_getElem?_getD, more_at htl, List.getElem?_eq_getElem htl]
        rfl
      rw [hta] at h2 hval
      have h3 := (pickS_least (c := moreC c p) (B := bestS (moreC c p)) (s := s) (k := (moreC c p).tests.length) (j := t) (by rw [more_len]; omega) (by rw [htm]; exact h2)).2
      rw [htm, ← bestS_eq (moreC c p) hs12] at h3
      rw [hval]
      refine Int.le_trans h3 (costS_mono (fun o hx => ?_) 4)
      obtain ⟨q, _, hqo, hq2⟩ := partsTo_two (o := o) h2
      have hlt := partS_ne hs12 (fun e => hqo e.symm) hq2
      exact ih _ hlt (by omega)
end
end Go.Proofs.YtonpemikodajdaaDoor
