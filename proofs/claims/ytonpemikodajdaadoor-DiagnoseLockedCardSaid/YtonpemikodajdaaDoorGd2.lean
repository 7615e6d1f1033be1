/- Plain: bounds for the best choice. -/
import Derived.Test.YtonpemikodajdaaDoorCs4
namespace Go.Proofs.YtonpemikodajdaaDoor
open Go.RowKit

theorem bitsOf_part (outs : List Int) (s o : Nat) (hs : s < 4096) : bitsOf (partS outs s o) = (bitsOf s).filter fun j => decide (outs.getD j 0 = o) := by
  unfold bitsOf
  rw [List.filter_filter]
  refine List.filter_congr fun j _ => ?_
  rw [partS_bit _ _ _ _ hs, Bool.and_comm]
theorem bitsOf_pos {s : Nat} (h0 : 0 < s) (hs : s < 4096) : 0 < (bitsOf s).length := by
  obtain ⟨j, hj⟩ := Nat.exists_testBit_of_ne_zero (show s ≠ 0 by omega)
  have h12 : j < 12 := by
    rcases Nat.lt_or_ge j 12 with h | h
    · exact h
    · have e : 4096 ≤ 2 ^ j := by
        have : 2 ^ 12 ≤ 2 ^ j := Nat.pow_le_pow_right (by omega) h
        exact this
      rw [Nat.testBit_lt_two_pow (by omega)] at hj; cases hj
  exact List.length_pos_of_mem (mem_bitsOf.2 ⟨h12, hj⟩)
theorem filter_lt {α : Type} {l : List α} {p : α → Bool} {x : α} (hx : x ∈ l) (hp : p x = false) : (l.filter p).length < l.length := by
  rcases Nat.lt_or_eq_of_le (List.length_filter_le p l) with h | h
  · exact h
  · have := List.length_filter_eq_length_iff.1 h x hx
    rw [hp] at this; cases this
theorem part_fewer {outs : List Int} {s o p : Nat} (hs : s < 4096) (hop : o ≠ p) (hp : 0 < partS outs s p) : (bitsOf (partS outs s o)).length < (bitsOf s).length := by
  obtain ⟨j, hj⟩ := List.exists_mem_of_length_pos (bitsOf_pos hp (partS_lt outs s p))
  rw [bitsOf_part _ _ _ hs, List.mem_filter] at hj
  rw [bitsOf_part _ _ _ hs]
  exact filter_lt hj.1 (decide_eq_false fun e => by have := of_decide_eq_true hj.2; omega)
def capC (m : Nat) : Int := 12000000 * 5 ^ m
theorem capC_succ (m : Nat) : capC (m + 1) = 5 * capC m := by unfold capC; rw [Int.pow_succ]; omega
theorem capC_pos (m : Nat) : 12000000 ≤ capC m := by
  induction m with
  | zero => decide
  | succ m ih => rw [capC_succ]; omega
theorem capC_mono {a b : Nat} (h : a ≤ b) : capC a ≤ capC b := by
  induction b with
  | zero => have : a = 0 := by omega
            subst this; exact Int.le_refl _
  | succ b ih =>
    by_cases e : a = b + 1
    · subst e; exact Int.le_refl _
    · have h1 := ih (by omega)
      have h2 := capC_pos b
      rw [capC_succ]; omega
theorem capC_12 : capC 12 = 2929687500000000 := by decide
/-- where a choice lies -/
structure ChOk (c : MCase) (p : Int × Int) (M : Int) : Prop where
  lo : -1 ≤ p.1
  hi : p.1 < c.tests.length
  c0 : 0 ≤ p.2
  c1 : p.2 ≤ M
theorem costS_bd {B : Nat → Int × Int} {outs : List Int} {s : Nat} {c0 M : Int} (h0 : 0 ≤ c0) (hM : 0 ≤ M) : ∀ {k : Nat}, (∀ o, o < k → 0 < partS outs s o → 0 ≤ (B (partS outs s o)).2 ∧ (B (partS outs s o)).2 ≤ M) → 0 ≤ costS B outs s c0 k ∧ costS B outs s c0 k ≤ c0 + M * k
  | 0, _ => by simp [costS]; exact h0
  | k + 1, h => by
    have ih := costS_bd h0 hM (k := k) fun o ho => h o (by omega)
    rw [costS, show ((k + 1 : Nat) : Int) = (k : Int) + 1 by omega, Int.mul_add, Int.mul_one]
    by_cases e : 0 < partS outs s k
    · rw [if_pos e]
      have := h k (by omega) e
      omega
    · rw [if_neg e]; omega
theorem mulWeight {c : MCase} (hok : CaseOk c) {t : MProbe} (ht : 0 ≤ t.cost ∧ t.cost ≤ 1000) {s : Nat} (hs : s < 2 ^ c.weights.length) : 0 ≤ t.cost * weightS c s ∧ t.cost * weightS c s ≤ 12000000 ∧ 0 ≤ weightS c s ∧ weightS c s ≤ 12000 := by
  have h1 := weightL_bd hok.w (bitsOf s) fun i hi => bits_lt hs hi
  have h2 := bitsOf_len s
  have h3 : 0 ≤ weightS c s ∧ weightS c s ≤ 12000 := by unfold weightS; omega
  refine ⟨Int.mul_nonneg ht.1 h3.1, ?_, h3⟩
  have := Int.mul_le_mul ht.2 h3.2 h3.1 (by omega)
  omega
theorem pickS_bd {B : Nat → Int × Int} {c : MCase} (hok : CaseOk c) {s : Nat} (hs : s < 2 ^ c.weights.length) (hB : ∀ t, t < s → (bitsOf t).length < (bitsOf s).length → 0 < t → 0 ≤ (B t).2 ∧ (B t).2 ≤ capC (bitsOf t).length) :
    ∀ {k : Nat}, k ≤ c.tests.length → ChOk c (pickS B c s k) (capC (bitsOf s).length) ∧ ((pickS B c s k).1 < k)
  | 0, _ => by
    rw [pickS]
    have := capC_pos (bitsOf s).length
    exact ⟨⟨by decide, by show (-1 : Int) < _; omega, by decide, by show (0 : Int) ≤ _; omega⟩, by decide⟩
  | k + 1, hk => by
    obtain ⟨ih, ih2⟩ := pickS_bd hok hs hB (k := k) (by omega)
    rw [pickS]
    by_cases e : partsTo (c.tests.getD k ⟨0, []⟩).outs s 4 < 2
    · rw [if_pos e]; exact ⟨ih, by omega⟩
    · rw [if_neg e]
      by_cases e2 : (pickS B c s k).1 < 0 ∨ costS B (c.tests.getD k ⟨0, []⟩).outs s ((c.tests.getD k ⟨0, []⟩).cost * weightS c s) 4 < (pickS B c s k).2
      · rw [if_pos e2]
        have hs12 := two12 hs hok.n2
        have ht : c.tests[k]? = some (c.tests.getD k ⟨0, []⟩) := by rw [List.getD_eq_getElem?_getD, List.getElem?_eq_getElem (by omega)]; rfl
        have hp := hok.p k _ ht
        have hm := mulWeight hok hp.1 hs
        have hcap : 0 < (bitsOf s).length := by
          obtain ⟨p, _, _, h2⟩ := partsTo_two (o := 0) (show 2 ≤ partsTo (c.tests.getD k ⟨0, []⟩).outs s 4 by omega)
          exact bitsOf_pos (by have := partS_le (outs := (c.tests.getD k ⟨0, []⟩).outs) (o := p) hs12; omega) hs12
        obtain ⟨m, hmm⟩ : ∃ m, (bitsOf s).length = m + 1 := ⟨(bitsOf s).length - 1, by omega⟩
        have hc := costS_bd (B := B) (outs := (c.tests.getD k ⟨0, []⟩).outs) (s := s) (c0 := (c.tests.getD k ⟨0, []⟩).cost * weightS c s) (M := capC m) hm.1 (by have := capC_pos m; omega) (k := 4) fun o _ ho => by
          obtain ⟨p, _, hpo, h2⟩ := partsTo_two (o := o) (show 2 ≤ partsTo (c.tests.getD k ⟨0, []⟩).outs s 4 by omega)
          have h3 := part_fewer hs12 (fun e => hpo e.symm) h2
          have h4 := hB _ (partS_ne hs12 (fun e => hpo e.symm) h2) h3 ho
          have h5 := capC_mono (show (bitsOf (partS (c.tests.getD k ⟨0, []⟩).outs s o)).length ≤ m by omega)
          omega
        have hp0 := capC_pos m
        have hps := capC_succ m
        rw [← hmm] at hps
        generalize costS B (c.tests.getD k ⟨0, []⟩).outs s ((c.tests.getD k ⟨0, []⟩).cost * weightS c s) 4 = C at *
        exact ⟨⟨by show -1 ≤ (k : Int); omega, by show (k : Int) < _; omega, hc.1, by show C ≤ _; omega⟩, by show (k : Int) < _; omega⟩
      · rw [if_neg e2]; exact ⟨ih, by omega⟩
theorem bestS_bd {c : MCase} (hok : CaseOk c) : ∀ (s : Nat), s < 2 ^ c.weights.length → ChOk c (bestS c s) (capC (bitsOf s).length) := by
  intro s
  induction s using Nat.strongRecOn with
  | ind s ih =>
    intro hs
    rw [bestS_eq c (two12 hs hok.n2)]
    exact (pickS_bd hok hs (fun t ht _ _ => by
      have := ih t ht (by omega)
      exact ⟨this.c0, this.c1⟩) (Nat.le_refl _)).1
theorem bestS_cap {c : MCase} (hok : CaseOk c) {s : Nat} (hs : s < 2 ^ c.weights.length) : -1 ≤ (bestS c s).1 ∧ (bestS c s).1 < c.tests.length ∧ 0 ≤ (bestS c s).2 ∧ (bestS c s).2 ≤ 2929687500000000 := by
  have h := bestS_bd hok s hs
  have h1 := capC_mono (bitsOf_len s)
  rw [capC_12] at h1
  exact ⟨h.lo, h.hi, h.c0, Int.le_trans h.c1 h1⟩
theorem pickS_cap {c : MCase} (hok : CaseOk c) {s : Nat} (hs : s < 2 ^ c.weights.length) {k : Nat} (hk : k ≤ c.tests.length) : -1 ≤ (pickS (bestS c) c s k).1 ∧ (pickS (bestS c) c s k).1 < k ∧ 0 ≤ (pickS (bestS c) c s k).2 ∧ (pickS (bestS c) c s k).2 ≤ 2929687500000000 := by
  have h := pickS_bd (B := bestS c) hok hs (fun t ht _ _ => by
      have := bestS_bd hok t (by omega)
      exact ⟨this.c0, this.c1⟩) hk
  have h1 := capC_mono (bitsOf_len s)
  rw [capC_12] at h1
  exact ⟨h.1.lo, h.2, h.1.c0, Int.le_trans h.1.c1 h1⟩
end Go.Proofs.YtonpemikodajdaaDoor
