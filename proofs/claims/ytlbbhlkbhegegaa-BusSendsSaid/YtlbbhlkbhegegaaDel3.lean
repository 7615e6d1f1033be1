/- Small laws for the walk of the reference's Delays. -/
import Derived.Test.YtlbbhlkbhegegaaDel2
namespace Go.Proofs.Ytlbbhlkbhegegaa
open Go.RowKit

theorem sumTo_bd2 {n : MNet} {B : Nat → Int} {g : Int} {M : Int} (hM : 0 ≤ M) : ∀ k, (∀ i, i < k → thru n g i = true → 0 ≤ B i ∧ B i ≤ M) → 0 ≤ sumTo n B g k ∧ sumTo n B g k ≤ M * k := by
  intro k
  induction k with
  | zero => intro _; simp [sumTo]
  | succ k ih =>
    intro h
    have h1 := ih (fun i hi => h i (by omega))
    have h2 := h k (by omega)
    unfold sumTo
    have : M * ((k + 1 : Nat) : Int) = M * k + M := by rw [Int.natCast_add, Int.mul_add]; simp
    split
    · have := h2 ‹_›
      omega
    · omega
theorem overB_le {n : MNet} {B : Nat → Int} {g : Int} {j : Nat} (h : overB n B g j = false) (ht : thru n g j = true) : B j ≤ 1000000000 := by
  unfold overB at h
  rw [ht, Bool.true_and] at h
  have := of_decide_eq_false h
  omega
theorem burstR_ok {n : MNet} {B : Nat → Int} {g wt : Int} (hv : netB n = true) (hB : ∀ j, j < n.flows.length → 0 ≤ B j ∧ B j ≤ 500000000000000) (h0 : 0 ≤ wt ∧ wt ≤ 40000000000) (ho : ∀ j, j < n.flows.length → overB n B g j = false) :
    ∀ j, j < n.flows.length → 0 ≤ burstR n B g wt j ∧ burstR n B g wt j ≤ 500000000000000 := by
  intro j hj
  have h1 := hB j hj
  by_cases ht : thru n g j = true
  · have h2 := overB_le (ho j hj) ht
    rw [show burstR n B g wt j = B j + (flowAt n j).rate * wt by unfold burstR; rw [if_pos ht], flowAt_of (List.getElem?_eq_getElem hj)]
    have h4 := flow_rate hv (List.getElem?_eq_getElem hj)
    have h5 := mul_bd h4.2.1 h4.2.2 h0.1 h0.2
    omega
  · rw [show burstR n B g wt j = B j by unfold burstR; rw [if_neg ht]]
    exact h1
theorem delR_zero {n : MNet} {g : Int} {r : List Int} {B W D : Nat → Int} (ho : ∀ j, j < n.flows.length → overB n B g j = false) (h : sumTo n B g n.flows.length = 0) : delR n (g :: r) B W D = delR n r B W D := by
  rw [delR_any ho, if_pos h]
theorem delR_step {n : MNet} {g : Int} {r : List Int} {B W D : Nat → Int} (ho : ∀ j, j < n.flows.length → overB n B g j = false) (h : sumTo n B g n.flows.length ≠ 0) :
    delR n (g :: r) B W D = delR n r (burstR n B g (waitOf n B g)) (setW W g (waitOf n B g)) (delayD n D g (waitOf n B g)) := by
  rw [delR_any ho, if_neg h]
end Go.Proofs.Ytlbbhlkbhegegaa
