/- What CheckNet answers, as plain data. -/
import Derived.Test.YtlbbhlkbhegegaaOrd
namespace Go.Proofs.Ytlbbhlkbhegegaa
open Go.RowKit

def sumRate (fl : List MFlow) (g : Int) : Int := (fl.map fun f => if hasI f.path g = true then f.rate else 0).sum
def rateOk (n : MNet) (g : Nat) : Bool := decide (sumRate n.flows g ≤ (n.gates.getD g ⟨0, 0⟩).rate)
def checkS (n : MNet) : Int := if netB n = true then (if (orderS n).isSome = true then (if (List.range n.gates.length).all (rateOk n) = true then 0 else 47) else 46) else 45

theorem sumRate_succ (fl : List MFlow) (g : Int) (k : Nat) (f : MFlow) (h : fl[k]? = some f) : sumRate (fl.take (k + 1)) g = sumRate (fl.take k) g + if hasI f.path g = true then f.rate else 0 := by
  unfold sumRate
  rw [List.take_add_one, h]
  simp
theorem sumRate_bd {n : MNet} (hv : netB n = true) (g : Int) : ∀ k, k ≤ n.flows.length → 0 ≤ sumRate (n.flows.take k) g ∧ sumRate (n.flows.take k) g ≤ 10000 * k := by
  intro k
  induction k with
  | zero => intro _; simp [sumRate]
  | succ k ih =>
    intro hk
    have := ih (by omega)
    have hf : n.flows[k]? = some n.flows[k] := List.getElem?_eq_getElem (by omega)
    have h1 := (netB_flow hv hf).1
    unfold flowB at h1
    rw [Bool.and_eq_true, inB_iff, inB_iff] at h1
    rw [sumRate_succ _ _ _ _ hf]
    split <;> omega
theorem check_45 {n : MNet} (h : netB n = false) : checkS n = 45 := by simp [checkS, h]
theorem check_46 {n : MNet} (h : netB n = true) (h2 : orderS n = none) : checkS n = 46 := by simp [checkS, h, h2]
theorem check_47 {n : MNet} (h : netB n = true) {l : List Int} (h2 : orderS n = some l) {k : Nat} (hk : k < n.gates.length) (h3 : rateOk n k = false) : checkS n = 47 := by
  simp only [checkS, h, h2, range_no hk h3]; rfl
theorem check_0 {n : MNet} (h : netB n = true) {l : List Int} (h2 : orderS n = some l) (h3 : ∀ k, k < n.gates.length → rateOk n k = true) : checkS n = 0 := by
  simp only [checkS, h, h2, range_yes h3]; rfl
theorem rateOk_of {n : MNet} {k : Nat} {x : MGate} (h : n.gates[k]? = some x) : rateOk n k = decide (sumRate n.flows (k : Int) ≤ x.rate) := by
  unfold rateOk
  rw [List.getD_eq_getElem?_getD, h]; rfl
end Go.Proofs.Ytlbbhlkbhegegaa
