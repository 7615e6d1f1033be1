/- Plain: the reference's right, round by round. -/
import Derived.Test.YtonpemikodajdaaDoorRw1
namespace Go.Proofs.YtonpemikodajdaaDoor
open Go.RowKit

theorem rTo_none {c : MCase} {F : List MFork} {i : Nat} (h : rTo c F i = none) : ∀ {j : Nat}, i ≤ j → rTo c F j = none
  | 0, hj => by
    obtain rfl : i = 0 := by omega
    exact h
  | j + 1, hj => by
    by_cases e : i = j + 1
    · subst e; exact h
    · unfold rTo
      rw [rTo_none h (j := j) (by omega)]
      rfl
theorem rTo_succ {c : MCase} {F : List MFork} {k : Nat} {q : NN × NN} (hS : rTo c F k = some q) : rTo c F (k + 1) = rFork c F k q := by
  unfold rTo
  rw [hS]
  rfl
theorem rright_no {c : MCase} {F : List MFork} {k : Nat} {q : NN × NN} (hk : k < F.length) (hS : rTo c F k = some q) (h : rFork c F k q = none) : rrightB c F = false := by
  unfold rrightB
  rw [rTo_none ((rTo_succ hS).trans h) (j := F.length) (by omega)]
  show (_ && (_ && false)) = false
  rw [Bool.and_false, Bool.and_false]
theorem rright_far {c : MCase} {F : List MFork} (h : ¬ (1 ≤ F.length ∧ F.length ≤ 5000)) : rrightB c F = false := by
  unfold rrightB
  rw [decide_eq_false h]
  rfl
theorem rright_root {c : MCase} {F : List MFork} (h : (fk F 0).set ≠ bitsI (fullS c)) : rrightB c F = false := by
  unfold rrightB
  rw [decide_eq_false h]
  show (_ && (false && _)) = false
  rw [Bool.false_and, Bool.and_false]
theorem rright_yes {c : MCase} {F : List MFork} {q : NN × NN} (h1 : 1 ≤ F.length) (h2 : F.length ≤ 5000) (h0 : (fk F 0).set = bitsI (fullS c)) (hS : rTo c F F.length = some q) : rrightB c F = true := by
  unfold rrightB
  rw [decide_eq_true ⟨h1, h2⟩, decide_eq_true h0, hS]
  rfl
theorem rKids_succ {F : List MFork} {i : Nat} {X : NN} {next : List Int} {o : Nat} {q q' : NN × NN} (h : rKids F i X next o q = some q') : rKids F i X next (o + 1) q = rKid F i (X o) (next.getD o 0) q' := by
  rw [rKids, h]
  rfl
theorem rKids_none {F : List MFork} {i : Nat} {X : NN} {next : List Int} {o : Nat} {q : NN × NN} (h : rKids F i X next o q = none) : ∀ {j : Nat}, o ≤ j → rKids F i X next j q = none
  | 0, hj => by
    obtain rfl : o = 0 := by omega
    exact h
  | j + 1, hj => by
    by_cases e : o = j + 1
    · subst e; exact h
    · rw [rKids, rKids_none h (j := j) (by omega)]
      rfl
theorem rfork_first {c : MCase} {F : List MFork} {i : Nat} {q : NN × NN} (h : 0 < i ∧ q.1 i ≠ 1) : rFork c F i q = none := by
  unfold rFork; rw [if_pos h]
theorem rfork_leaf {c : MCase} {F : List MFork} {i : Nat} {q : NN × NN} (h : ¬ (0 < i ∧ q.1 i ≠ 1)) (ht : (fk F i).test = -1) : rFork c F i q = if leafR c (fk F i) (q.2 i) then some q else none := by
  unfold rFork
  rw [if_neg h, if_pos ht]
theorem rfork_node {c : MCase} {F : List MFork} {i : Nat} {q : NN × NN} (h : ¬ (0 < i ∧ q.1 i ≠ 1)) (ht : (fk F i).test ≠ -1) : rFork c F i q = if forkR c (fk F i) (q.2 i) then rKids F i (partS (testAt c (fk F i).test).outs (q.2 i)) (fk F i).next 4 q else none := by
  unfold rFork
  rw [if_neg h, if_neg ht]
theorem rKid_lt {F : List MFork} {i x M : Nat} {n : Int} {q q' : NN × NN} (h : rKid F i x n q = some q') (hS : ∀ j, q.2 j < M) (hx : x < M) (j : Nat) : q'.2 j < M := by
  unfold rKid at h
  split at h
  · split at h
    · injection h with h; rw [← h]; exact hS j
    · cases h
  · split at h
    · injection h with h
      rw [← h]
      show updN _ _ _ _ < _
      unfold updN
      split
      · exact hx
      · exact hS j
    · cases h
theorem rKids_lt {F : List MFork} {i M : Nat} {X : NN} {next : List Int} : ∀ {k : Nat} {q q' : NN × NN}, rKids F i X next k q = some q' → (∀ j, q.2 j < M) → (∀ o, X o < M) → ∀ j, q'.2 j < M
  | 0, q, q', h, hS, hX, j => by injection h with h; rw [← h]; exact hS j
  | k + 1, q, q', h, hS, hX, j => by
    rw [rKids, Option.bind_eq_some_iff] at h
    obtain ⟨q1, h1, h2⟩ := h
    exact rKid_lt h2 (rKids_lt h1 hS hX) (hX _) j
theorem rTo_lt {c : MCase} {F : List MFork} (hn : c.weights.length ≤ 12) : ∀ {i : Nat} {q : NN × NN}, rTo c F i = some q → ∀ j, q.2 j < 2 ^ c.weights.length
  | 0, q, h, j => by
    injection h with h
    rw [← h]
    show root0 c j < _
    unfold root0 fullS
    have := Nat.two_pow_pos c.weights.length
    split <;> omega
  | i + 1, q, h, j => by
    rw [rTo, Option.bind_eq_some_iff] at h
    obtain ⟨q1, h1, h2⟩ := h
    have ih := rTo_lt hn h1
    unfold rFork at h2
    split at h2
    · cases h2
    · split at h2
      · split at h2
        · injection h2 with h2; rw [← h2]; exact ih j
        · cases h2
      · split at h2
        · exact rKids_lt h2 ih (fun o => Nat.lt_of_le_of_lt (partS_le (pow12 hn (ih i))) (ih i)) j
        · cases h2
/-- how often a fork was named is no more than the forks before it could -/
theorem rKid_many {F : List MFork} {i x M : Nat} {n : Int} {q q' : NN × NN} (h : rKid F i x n q = some q') (hS : ∀ j, q.1 j ≤ M) (j : Nat) : q'.1 j ≤ M + 1 := by
  unfold rKid at h
  split at h
  · split at h
    · injection h with h; rw [← h]; exact Nat.le_succ_of_le (hS j)
    · cases h
  · split at h
    · injection h with h
      rw [← h]
      show updN _ _ _ _ ≤ _
      unfold updN
      split
      · exact Nat.succ_le_succ (hS _)
      · exact Nat.le_succ_of_le (hS j)
    · cases h
theorem rKids_many {F : List MFork} {i M : Nat} {X : NN} {next : List Int} : ∀ {k : Nat} {q q' : NN × NN}, rKids F i X next k q = some q' → (∀ j, q.1 j ≤ M) → ∀ j, q'.1 j ≤ M + k
  | 0, q, q', h, hS, j => by injection h with h; rw [← h]; exact hS j
  | k + 1, q, q', h, hS, j => by
    rw [rKids, Option.bind_eq_some_iff] at h
    obtain ⟨q1, h1, h2⟩ := h
    exact rKid_many h2 (rKids_many h1 hS) j
theorem rTo_many {c : MCase} {F : List MFork} : ∀ {i : Nat} {q : NN × NN}, rTo c F i = some q → ∀ j, q.1 j ≤ i * 4
  | 0, q, h, j => by
    injection h with h
    rw [← h]
    exact Nat.zero_le _
  | i + 1, q, h, j => by
    rw [rTo, Option.bind_eq_some_iff] at h
    obtain ⟨q1, h1, h2⟩ := h
    have ih := rTo_many h1
    have e : i * 4 ≤ (i + 1) * 4 := by omega
    unfold rFork at h2
    split at h2
    · cases h2
    · split at h2
      · split at h2
        · injection h2 with h2; rw [← h2]; exact Nat.le_trans (ih j) e
        · cases h2
      · split at h2
        · have := rKids_many h2 ih j
          omega
        · cases h2
end Go.Proofs.YtonpemikodajdaaDoor
