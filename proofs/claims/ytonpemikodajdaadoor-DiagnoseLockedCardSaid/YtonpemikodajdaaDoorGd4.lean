/- Plain: how many forks a tree has at the most; what Guide answers. -/
import Derived.Test.YtonpemikodajdaaDoorGd3
namespace Go.Proofs.YtonpemikodajdaaDoor
open Go.RowKit

theorem kidsF_len1 {G : Nat → Nat → List MFork} {outs : List Int} {s n M : Nat} (h : ∀ o m, 0 < partS outs s o → (G (partS outs s o) m).length ≤ M) : ∀ k, (kidsF G outs s n k).1.length ≤ k * M
  | 0 => by simp [kidsF]
  | k + 1 => by
    have ih := kidsF_len1 (n := n) h k
    rw [kidsF, Nat.succ_mul]
    by_cases e : 0 < partS outs s k
    · rw [if_pos e]
      have := h k (n + 1 + (kidsF G outs s n k).1.length) e
      show ((kidsF G outs s n k).1 ++ G (partS outs s k) (n + 1 + (kidsF G outs s n k).1.length)).length ≤ _
      rw [List.length_append]
      omega
    · rw [if_neg e]; show (kidsF G outs s n k).1.length ≤ _; omega
theorem growS_len (c : MCase) : ∀ (s : Nat), s < 4096 → ∀ n, (growS c s n).length ≤ 5 ^ (bitsOf s).length := by
  intro s
  induction s using Nat.strongRecOn with
  | ind s ih =>
    intro hs n
    by_cases h : (bestS c s).1 < 0
    · rw [growS_leaf h]
      exact Nat.pow_pos (by omega)
    · rw [growS_fork hs h, List.length_cons]
      have hp := bestS_parts hs (show 0 ≤ (bestS c s).1 by omega)
      obtain ⟨p0, _, _, hp0⟩ := partsTo_two (o := 0) hp
      have hpos : 0 < (bitsOf s).length := bitsOf_pos (by have := partS_le (outs := (testAt c (bestS c s).1).outs) (o := p0) hs; omega) hs
      obtain ⟨m, hm⟩ : ∃ m, (bitsOf s).length = m + 1 := ⟨(bitsOf s).length - 1, by omega⟩
      have hk := kidsF_len1 (G := growS c) (outs := (testAt c (bestS c s).1).outs) (s := s) (n := n) (M := 5 ^ m) (fun o m' _ => by
        obtain ⟨p, _, hpo, h2⟩ := partsTo_two (o := o) hp
        have h3 := part_fewer hs (fun e => hpo e.symm) h2
        have h4 := ih _ (partS_ne hs (fun e => hpo e.symm) h2) (partS_lt _ _ _) m'
        exact Nat.le_trans h4 (Nat.pow_le_pow_right (by omega) (by omega))) 4
      rw [hm, Nat.pow_succ]
      have : 1 ≤ 5 ^ m := Nat.pow_pos (by omega)
      omega
theorem growS_cap {c : MCase} {s : Nat} (hs : s < 4096) (n : Nat) : (growS c s n).length ≤ 1000000000 := by
  have h1 := growS_len c s hs n
  have h2 : 5 ^ (bitsOf s).length ≤ 5 ^ 12 := Nat.pow_le_pow_right (by omega) (bitsOf_len s)
  have h3 : 5 ^ 12 = 244140625 := by decide
  omega
def fullS (c : MCase) : Nat := 2 ^ c.weights.length - 1
theorem fullS_lt (c : MCase) : fullS c < 2 ^ c.weights.length := by
  unfold fullS
  have : 0 < 2 ^ c.weights.length := Nat.two_pow_pos _
  omega
theorem exC_ok : caseB exC = true := by decide +kernel
theorem exC_full : fullS exC = 7 := by decide +kernel
end Go.Proofs.YtonpemikodajdaaDoor
