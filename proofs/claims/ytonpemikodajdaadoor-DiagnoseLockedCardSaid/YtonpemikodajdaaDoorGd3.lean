/- Plain: the tree that grows from a set. -/
import Derived.Test.YtonpemikodajdaaDoorGd2
namespace Go.Proofs.YtonpemikodajdaaDoor
open Go.RowKit

structure MFork where
  test : Int
  next : List Int
  set : List Int
def testAt (c : MCase) (t : Int) : MProbe := c.tests.getD t.toNat ⟨0, []⟩
/-- the forks below the first o outcomes, the first of them number n + 1, and their numbers -/
def kidsF (G : Nat → Nat → List MFork) (outs : List Int) (s n : Nat) : Nat → List MFork × List Int
  | 0 => ([], [])
  | o + 1 =>
    if 0 < partS outs s o then ((kidsF G outs s n o).1 ++ G (partS outs s o) (n + 1 + (kidsF G outs s n o).1.length), (kidsF G outs s n o).2 ++ [((n + 1 + (kidsF G outs s n o).1.length : Nat) : Int)])
    else ((kidsF G outs s n o).1, (kidsF G outs s n o).2 ++ [-1])
def growF (c : MCase) : Nat → Nat → Nat → List MFork
  | 0, _, _ => []
  | u + 1, s, n =>
    if (bestS c s).1 < 0 then [⟨(bestS c s).1, [], bitsI s⟩]
    else ⟨(bestS c s).1, (kidsF (growF c u) (testAt c (bestS c s).1).outs s n 4).2, bitsI s⟩ :: (kidsF (growF c u) (testAt c (bestS c s).1).outs s n 4).1
def growS (c : MCase) (s n : Nat) : List MFork := growF c (s + 1) s n
theorem pickS_parts {B : Nat → Int × Int} {c : MCase} {s : Nat} : ∀ {k : Nat}, 0 ≤ (pickS B c s k).1 → 2 ≤ partsTo (testAt c (pickS B c s k).1).outs s 4
  | 0, h => by rw [pickS] at h; exact absurd h (by decide)
  | k + 1, h => by
    rw [pickS] at h ⊢
    by_cases e : partsTo (c.tests.getD k ⟨0, []⟩).outs s 4 < 2
    · rw [if_pos e] at h ⊢
      exact pickS_parts h
    · rw [if_neg e] at h ⊢
      by_cases e2 : (pickS B c s k).1 < 0 ∨ costS B (c.tests.getD k ⟨0, []⟩).outs s ((c.tests.getD k ⟨0, []⟩).cost * weightS c s) 4 < (pickS B c s k).2
      · rw [if_pos e2]
        show 2 ≤ partsTo (c.tests.getD ((k : Int)).toNat ⟨0, []⟩).outs s 4
        rw [Int.toNat_natCast]
        omega
      · rw [if_neg e2] at h ⊢
        exact pickS_parts h
theorem bestS_parts {c : MCase} {s : Nat} (hs : s < 4096) (h : 0 ≤ (bestS c s).1) : 2 ≤ partsTo (testAt c (bestS c s).1).outs s 4 := by
  rw [bestS_eq c hs] at h ⊢
  exact pickS_parts h
theorem kidsF_congr {G G' : Nat → Nat → List MFork} {outs : List Int} {s n : Nat} (h : ∀ o m, G (partS outs s o) m = G' (partS outs s o) m) : ∀ k, kidsF G outs s n k = kidsF G' outs s n k
  | 0 => rfl
  | k + 1 => by rw [kidsF, kidsF, kidsF_congr h k, h]
theorem growF_enough (c : MCase) : ∀ (s : Nat), s < 4096 → ∀ u n, s < u → growF c u s n = growS c s n := by
  intro s
  induction s using Nat.strongRecOn with
  | ind s ih =>
    intro hs u n hu
    obtain ⟨v, rfl⟩ : ∃ v, u = v + 1 := ⟨u - 1, by omega⟩
    unfold growS
    rw [growF, growF]
    by_cases h : (bestS c s).1 < 0
    · rw [if_pos h, if_pos h]
    · rw [if_neg h, if_neg h]
      have hp := bestS_parts hs (show 0 ≤ (bestS c s).1 by omega)
      have : ∀ k, kidsF (growF c v) (testAt c (bestS c s).1).outs s n k = kidsF (growF c s) (testAt c (bestS c s).1).outs s n k := kidsF_congr fun o m => by
        obtain ⟨p, _, hpo, h2⟩ := partsTo_two (o := o) hp
        have h3 := partS_ne hs (fun e => hpo e.symm) h2
        rw [ih _ h3 (by omega) v m (by omega), ih _ h3 (by omega) s m h3]
      rw [this]
theorem growS_leaf {c : MCase} {s n : Nat} (h : (bestS c s).1 < 0) : growS c s n = [⟨(bestS c s).1, [], bitsI s⟩] := by unfold growS; rw [growF, if_pos h]
theorem growS_fork {c : MCase} {s n : Nat} (hs : s < 4096) (h : ¬ (bestS c s).1 < 0) : growS c s n = ⟨(bestS c s).1, (kidsF (growS c) (testAt c (bestS c s).1).outs s n 4).2, bitsI s⟩ :: (kidsF (growS c) (testAt c (bestS c s).1).outs s n 4).1 := by
  have hp := bestS_parts hs (show 0 ≤ (bestS c s).1 by omega)
  have : ∀ k, kidsF (growF c s) (testAt c (bestS c s).1).outs s n k = kidsF (growS c) (testAt c (bestS c s).1).outs s n k := kidsF_congr fun o m => by
    obtain ⟨p, _, hpo, h2⟩ := partsTo_two (o := o) hp
    have h3 := partS_ne hs (fun e => hpo e.symm) h2
    exact growF_enough c _ (by omega) s m h3
  unfold growS
  rw [growF, if_neg h, this]
  rfl
theorem kidsF_len (G : Nat → Nat → List MFork) (outs : List Int) (s n : Nat) : ∀ k, (kidsF G outs s n k).2.length = k
  | 0 => rfl
  | k + 1 => by
    rw [kidsF]
    have := kidsF_len G outs s n k
    split <;> simp [this]
theorem exC_grow : (growS exC 7 0).length = 5 := by decide +kernel
end Go.Proofs.YtonpemikodajdaaDoor
