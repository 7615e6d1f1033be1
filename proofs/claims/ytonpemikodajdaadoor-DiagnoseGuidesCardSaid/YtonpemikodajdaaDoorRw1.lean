/- Walks: right, over a tree of forks. -/
import Derived.Test.YtonpemikodajdaaDoorRc
namespace Go.Proofs.YtonpemikodajdaaDoor
open Go.RowKit

theorem pTo_none {c : MCase} {F : List MFork} {i : Nat} (h : pTo c F i = none) : ∀ {j : Nat}, i ≤ j → pTo c F j = none
  | 0, hj => by
    obtain rfl : i = 0 := by omega
    exact h
  | j + 1, hj => by
    by_cases e : i = j + 1
    · subst e; exact h
    · unfold pTo
      rw [pTo_none h (j := j) (by omega)]
      rfl
theorem pTo_succ {c : MCase} {F : List MFork} {k : Nat} {S : NN} (hS : pTo c F k = some S) : pTo c F (k + 1) = pFork c F k S := by
  unfold pTo
  rw [hS]
  rfl
theorem right_no {c : MCase} {F : List MFork} {k : Nat} {S : NN} (hk : k < F.length) (hS : pTo c F k = some S) (h : pFork c F k S = none) : rightB c F = false := by
  unfold rightB
  rw [pTo_none ((pTo_succ hS).trans h) (j := F.length) (by omega)]
  exact Bool.and_false _
theorem right_far {c : MCase} {F : List MFork} (h : ¬ (1 ≤ F.length ∧ F.length ≤ 5000)) : rightB c F = false := by
  unfold rightB
  rw [decide_eq_false h]
  rfl
theorem right_yes {c : MCase} {F : List MFork} {S : NN} (h1 : 1 ≤ F.length) (h2 : F.length ≤ 5000) (hS : pTo c F F.length = some S) : rightB c F = true := by
  unfold rightB
  rw [decide_eq_true ⟨h1, h2⟩, hS]
  rfl
theorem pKids_succ {N i : Nat} {X : NN} {next : List Int} {o : Nat} {S S' : NN} (h : pKids N i X next o S = some S') : pKids N i X next (o + 1) S = pKid N i (X o) (next.getD o 0) S' := by
  rw [pKids, h]
  rfl
theorem pKids_none {N i : Nat} {X : NN} {next : List Int} {o : Nat} {S : NN} (h : pKids N i X next o S = none) : ∀ {j : Nat}, o ≤ j → pKids N i X next j S = none
  | 0, hj => by
    obtain rfl : o = 0 := by omega
    exact h
  | j + 1, hj => by
    by_cases e : o = j + 1
    · subst e; exact h
    · rw [pKids, pKids_none h (j := j) (by omega)]
      rfl
theorem fork_first {c : MCase} {F : List MFork} {i : Nat} {S : NN} (h : S i = 0 ∨ (fk F i).set ≠ bitsI (S i)) : pFork c F i S = none := by
  unfold pFork; rw [if_pos h]
theorem fork_leaf {c : MCase} {F : List MFork} {i : Nat} {S : NN} (h0 : S i ≠ 0) (h : (fk F i).set = bitsI (S i)) (ht : (fk F i).test = -1) : pFork c F i S = if leafR c (fk F i) (S i) then some S else none := by
  unfold pFork
  rw [if_neg (fun e => e.elim h0 (fun e => e h)), if_pos ht]
theorem fork_node {c : MCase} {F : List MFork} {i : Nat} {S : NN} (h0 : S i ≠ 0) (h : (fk F i).set = bitsI (S i)) (ht : (fk F i).test ≠ -1) : pFork c F i S = if forkR c (fk F i) (S i) then pKids F.length i (partS (testAt c (fk F i).test).outs (S i)) (fk F i).next 4 S else none := by
  unfold pFork
  rw [if_neg (fun e => e.elim h0 (fun e => e h)), if_neg ht]
/-- the sets laid are sets of suspects -/
theorem pKid_lt {N i x M : Nat} {n : Int} {S S' : NN} (h : pKid N i x n S = some S') (hS : ∀ j, S j < M) (hx : x < M) (j : Nat) : S' j < M := by
  unfold pKid at h
  split at h
  · split at h
    · injection h with h; rw [← h]; exact hS j
    · cases h
  · split at h
    · injection h with h
      rw [← h]
      unfold updN
      split
      · exact hx
      · exact hS j
    · cases h
theorem pKids_lt {N i M : Nat} {X : NN} {next : List Int} : ∀ {k : Nat} {S S' : NN}, pKids N i X next k S = some S' → (∀ j, S j < M) → (∀ o, X o < M) → ∀ j, S' j < M
  | 0, S, S', h, hS, hX, j => by injection h with h; rw [← h]; exact hS j
  | k + 1, S, S', h, hS, hX, j => by
    rw [pKids, Option.bind_eq_some_iff] at h
    obtain ⟨S1, h1, h2⟩ := h
    exact pKid_lt h2 (pKids_lt h1 hS hX) (hX _) j
theorem pTo_lt {c : MCase} {F : List MFork} (hn : c.weights.length ≤ 12) : ∀ {i : Nat} {S : NN}, pTo c F i = some S → ∀ j, S j < 2 ^ c.weights.length
  | 0, S, h, j => by
    injection h with h
    rw [← h]
    unfold root0 fullS
    have := Nat.two_pow_pos c.weights.length
    split <;> omega
  | i + 1, S, h, j => by
    rw [pTo, Option.bind_eq_some_iff] at h
    obtain ⟨S1, h1, h2⟩ := h
    have ih := pTo_lt hn h1
    have h3 := h2
    unfold pFork at h2
    split at h2
    · cases h2
    · split at h2
      · split at h2
        · injection h2 with h2; rw [← h2]; exact ih j
        · cases h2
      · split at h2
        · exact pKids_lt h2 ih (fun o => Nat.lt_of_le_of_lt (partS_le (pow12 hn (ih i))) (ih i)) j
        · cases h2
theorem ixX (X : NN) {o : Nat} (ho : o < 4) (w : World) : (Instr.index 143 (.agg #[.int .u64 (X 0), .int .u64 (X 1), .int .u64 (X 2), .int .u64 (X 3)]) (.int .i64 o)).run Tryd.prog w = .ok (.int .u64 (X o)) w := by
  rcases (show o = 0 ∨ o = 1 ∨ o = 2 ∨ o = 3 by omega) with rfl | rfl | rfl | rfl
  · exact ix0 _ _ _ _ w
  · exact ix1 _ _ _ _ w
  · exact ix2 _ _ _ _ w
  · exact ix3 _ _ _ _ w
section
variable {ops : Array Oper} {rest : List Oper} {o : Oper} {a : Act} {Q : Exit → Act → World → Prop}
theorem mk_masks (w : World) (hg : o.guard = none) (l c : Operand) (hop : o.op = .makeSlice 112 l c) (n : Nat) (hl : a.eval l = .int .i64 (n : Int)) (hc : a.eval c = .int .i64 (n : Int)) (hn : n ≤ 1000000)
    (hK : ∀ w', OwnF w' w.heap.size 97 n (fun _ => .int .u64 0) → Below w.heap.size w w' → wpList Tryd.prog ops Q rest (a.put o.dst (.slice (some ⟨w.heap.size, 0, none⟩) n n)) w') : wpList Tryd.prog ops Q (o :: rest) a w := by
  obtain ⟨i0, hi, hz0, hz1, hz2⟩ := info_parts info_mask
  refine wpList_make_full w hg l c 112 hop w.heap.size 97 i0 (.int .u64 0) 1 under_masks hi hz0 hz1 .i64 .i64 _ _ n hl hc rfl rfl (by rw [hz2]; omega) (by unfold maxLen; omega) (Nat.le_refl _) (fun w' h1 h2 => hK w' ?_ ?_)
  · exact (OwnF.of_row h1 rfl).congr fun j hj => made_get hj
  · exact (Below.refl _ _).grown h2 (Nat.le_refl _) (fun k hk => by cases hk)
end
/-- the sets of a tree in a row of the call's own -/
def SetsF (w : World) (g n : Nat) (S : NN) : Prop := OwnF w g 97 n (fun j => .int .u64 (S j))
theorem SetsF.put {w : World} {g n : Nat} {S : NN} (h : SetsF w g n S) (j x : Nat) : SetsF (w.setCell ⟨g, j, none⟩ (.int .u64 x)) g n (updN S j x) :=
  (OwnF.set h j (.int .u64 x)).congr fun i _ => by unfold updN; split <;> rfl
theorem SetsF.below {w w' : World} {g n B : Nat} {S : NN} (h : SetsF w g n S) (hb : Below B w w') (hg : g < B) : SetsF w' g n S := OwnF.below h hb hg
end Go.Proofs.YtonpemikodajdaaDoor
