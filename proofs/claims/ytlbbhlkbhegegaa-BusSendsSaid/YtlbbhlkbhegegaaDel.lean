/- What Delays answers, as plain data: the program's way (delI), the reference's way (delR). -/
import Derived.Test.YtlbbhlkbhegegaaChk
namespace Go.Proofs.Ytlbbhlkbhegegaa
open Go.RowKit

def flowAt (n : MNet) (i : Nat) : MFlow := n.flows.getD i ⟨0, 0, []⟩
def gateAt (n : MNet) (g : Int) : MGate := n.gates.getD g.toNat ⟨0, 0⟩
def thru (n : MNet) (g : Int) (i : Nat) : Bool := hasI (flowAt n i).path g
/-- the bytes of the first k flows at a gate -/
def sumTo (n : MNet) (B : Nat → Int) (g : Int) : Nat → Int
  | 0 => 0
  | k + 1 => sumTo n B g k + if thru n g k = true then B k else 0
def waitOf (n : MNet) (B : Nat → Int) (g : Int) : Int := (sumTo n B g n.flows.length + (gateAt n g).rate - 1) / (gateAt n g).rate - 1
def moreI (n : MNet) (g : Int) (i : Nat) : Bool := decide (0 ≤ idxI (flowAt n i).path g) && decide (idxI (flowAt n i).path g + 1 < (flowAt n i).path.length)
def burstI (n : MNet) (B : Nat → Int) (g wt : Int) (i : Nat) : Int := if moreI n g i = true then B i + (flowAt n i).rate * wt else B i
def burstR (n : MNet) (B : Nat → Int) (g wt : Int) (i : Nat) : Int := if thru n g i = true then B i + (flowAt n i).rate * wt else B i
def delayD (n : MNet) (D : Nat → Int) (g wt : Int) (i : Nat) : Int := if thru n g i = true then D i + ((gateAt n g).delay + wt) else D i
def setW (W : Nat → Int) (g wt : Int) (i : Nat) : Int := if i = g.toNat then wt else W i
def overB (n : MNet) (B : Nat → Int) (g : Int) (i : Nat) : Bool := thru n g i && decide (1000000000 < B i)
def delI (n : MNet) : List Int → (Nat → Int) → (Nat → Int) → (Nat → Int) → Option ((Nat → Int) × (Nat → Int))
  | [], _, W, D => some (W, D)
  | g :: r, B, W, D =>
    if sumTo n B g n.flows.length = 0 then delI n r B W D
    else if (List.range n.flows.length).any (overB n (burstI n B g (waitOf n B g)) g) = true then none
    else delI n r (burstI n B g (waitOf n B g)) (setW W g (waitOf n B g)) (delayD n D g (waitOf n B g))
def delR (n : MNet) : List Int → (Nat → Int) → (Nat → Int) → (Nat → Int) → Option ((Nat → Int) × (Nat → Int))
  | [], _, W, D => some (W, D)
  | g :: r, B, W, D =>
    if (List.range n.flows.length).any (overB n B g) = true then none
    else if sumTo n B g n.flows.length = 0 then delR n r B W D
    else delR n r (burstR n B g (waitOf n B g)) (setW W g (waitOf n B g)) (delayD n D g (waitOf n B g))
def burst0 (n : MNet) (i : Nat) : Int := (flowAt n i).burst

theorem delI_zero {n : MNet} {g : Int} {r : List Int} {B W D : Nat → Int} (h : sumTo n B g n.flows.length = 0) : delI n (g :: r) B W D = delI n r B W D := by
  rw [delI, if_pos h]
theorem delI_over {n : MNet} {g : Int} {r : List Int} {B W D : Nat → Int} (h : sumTo n B g n.flows.length ≠ 0) {j : Nat} (hj : j < n.flows.length) (ho : overB n (burstI n B g (waitOf n B g)) g j = true) : delI n (g :: r) B W D = none := by
  rw [delI, if_neg h, if_pos (List.any_eq_true.2 ⟨j, List.mem_range.2 hj, ho⟩)]
theorem delI_step {n : MNet} {g : Int} {r : List Int} {B W D : Nat → Int} (h : sumTo n B g n.flows.length ≠ 0) (ho : ∀ j, j < n.flows.length → overB n (burstI n B g (waitOf n B g)) g j = false) :
    delI n (g :: r) B W D = delI n r (burstI n B g (waitOf n B g)) (setW W g (waitOf n B g)) (delayD n D g (waitOf n B g)) := by
  rw [delI, if_neg h, if_neg]
  rw [List.any_eq_true]
  rintro ⟨j, hj, h1⟩
  rw [ho j (List.mem_range.1 hj)] at h1
  cases h1
theorem delR_over {n : MNet} {g : Int} {r : List Int} {B W D : Nat → Int} {j : Nat} (hj : j < n.flows.length) (ho : overB n B g j = true) : delR n (g :: r) B W D = none := by
  rw [delR, if_pos (List.any_eq_true.2 ⟨j, List.mem_range.2 hj, ho⟩)]
theorem delR_any {n : MNet} {g : Int} {r : List Int} {B W D : Nat → Int} (ho : ∀ j, j < n.flows.length → overB n B g j = false) : delR n (g :: r) B W D =
    if sumTo n B g n.flows.length = 0 then delR n r B W D else delR n r (burstR n B g (waitOf n B g)) (setW W g (waitOf n B g)) (delayD n D g (waitOf n B g)) := by
  rw [delR, if_neg]
  rw [List.any_eq_true]
  rintro ⟨j, hj, h1⟩
  rw [ho j (List.mem_range.1 hj)] at h1
  cases h1
theorem moreI_at {n : MNet} {g : Int} {i q : Nat} (h : idxI (flowAt n i).path g = (q : Int)) : moreI n g i = decide (q + 1 < (flowAt n i).path.length) := by
  unfold moreI
  rw [h, decide_eq_true (show (0 : Int) ≤ q by omega), Bool.true_and]
  congr 1
  exact propext ⟨fun h => by omega, fun h => by omega⟩
theorem moreI_miss {n : MNet} {g : Int} {i : Nat} (h : idxI (flowAt n i).path g = -1) : moreI n g i = false := by
  unfold moreI; rw [h]; rfl
/-! ### bounds -/
theorem up_bd {s r : Int} (hs : 1 ≤ s) (hr : 1 ≤ r) : 1 ≤ (s + r - 1) / r ∧ (s + r - 1) / r ≤ s := by
  constructor
  · exact (Int.le_ediv_iff_mul_le (by omega)).2 (by omega)
  · have h : (s + r - 1) / r < s + 1 := Int.ediv_lt_of_lt_mul (by omega) (by
      have h1 : s * 1 ≤ s * r := Int.mul_le_mul_of_nonneg_left hr (by omega)
      rw [Int.add_mul]
      omega)
    omega
theorem flowAt_of {n : MNet} {i : Nat} {f : MFlow} (h : n.flows[i]? = some f) : flowAt n i = f := by
  unfold flowAt
  rw [List.getD_eq_getElem?_getD, h]; rfl
theorem gateAt_of {n : MNet} {k : Nat} {g : MGate} (h : n.gates[k]? = some g) : gateAt n (k : Int) = g := by
  unfold gateAt
  rw [Int.toNat_natCast, List.getD_eq_getElem?_getD, h]; rfl
theorem sumTo_bd {n : MNet} {B : Nat → Int} {g : Int} {M : Int} (h : ∀ i, i < n.flows.length → thru n g i = true → 0 ≤ B i ∧ B i ≤ M) (hM : 0 ≤ M) : ∀ k, k ≤ n.flows.length → 0 ≤ sumTo n B g k ∧ sumTo n B g k ≤ M * k := by
  intro k
  induction k with
  | zero => intro _; simp [sumTo]
  | succ k ih =>
    intro hk
    have h1 := ih (by omega)
    have h2 := h k (by omega)
    unfold sumTo
    have : M * ((k + 1 : Nat) : Int) = M * k + M := by rw [Int.natCast_add, Int.mul_add]; simp
    split
    · have := h2 ‹_›
      omega
    · omega
theorem wait_bd {n : MNet} {B : Nat → Int} {k : Nat} {x : MGate} (hv : netB n = true) (hg : n.gates[k]? = some x) (h : ∀ i, i < n.flows.length → thru n (k : Int) i = true → 0 ≤ B i ∧ B i ≤ 1000000000) (h0 : sumTo n B k n.flows.length ≠ 0) :
    0 ≤ waitOf n B k ∧ waitOf n B k ≤ 40000000000 := by
  have h1 := sumTo_bd h (by omega) n.flows.length (Nat.le_refl _)
  have h2 := (netB_gate hv hg).1
  have h3 := (netB_len hv).2
  unfold waitOf
  rw [gateAt_of hg]
  have := up_bd (s := sumTo n B k n.flows.length) (r := x.rate) (by omega) (by omega)
  omega
theorem mul_bd {r t : Int} (h1 : 0 ≤ r) (h2 : r ≤ 10000) (h3 : 0 ≤ t) (h4 : t ≤ 40000000000) : 0 ≤ r * t ∧ r * t ≤ 400000000000000 := by
  constructor
  · exact Int.mul_nonneg h1 h3
  · have := Int.mul_le_mul h2 h4 h3 (by omega)
    omega
theorem flow_rate {n : MNet} (hv : netB n = true) {i : Nat} {f : MFlow} (h : n.flows[i]? = some f) : (1 ≤ f.burst ∧ f.burst ≤ 100000) ∧ 0 ≤ f.rate ∧ f.rate ≤ 10000 := by
  have h1 := (netB_flow hv h).1
  unfold flowB at h1
  rw [Bool.and_eq_true, inB_iff, inB_iff] at h1
  exact h1
end Go.Proofs.Ytlbbhlkbhegegaa
