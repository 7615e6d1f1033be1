/- Plain laws on loads: they grow with time; and what response answers. -/
import Derived.Test.YtlbbhlkbhegegaaR4
namespace Go.Proofs.Ytlbbhlkbhegegaa
open Go.RowKit

theorem manyUp_mono {f : MFrame} (hf : FOk f) {a b : Int} (h : a ≤ b) : manyUp a f ≤ manyUp b f := by
  unfold manyUp
  exact Int.ediv_le_ediv (by have := hf.2.1.1; omega) (by omega)
theorem manyAt_mono {f : MFrame} (hf : FOk f) {a b : Int} (h : a ≤ b) : manyAt a f ≤ manyAt b f := by
  unfold manyAt
  have := Int.ediv_le_ediv (a := a + f.jitter) (b := b + f.jitter) (c := f.every) (by have := hf.2.1.1; omega) (by omega)
  omega
theorem loadTo_mono {l : List MFrame} {ab : Nat → Bool} {F G : MFrame → Int} (h : ∀ (k : Nat) (f : MFrame), l[k]? = some f → F f ≤ G f ∧ 0 ≤ f.size) : ∀ k, k ≤ l.length → loadTo l ab F k ≤ loadTo l ab G k
  | 0, _ => Int.le_refl _
  | k + 1, hk => by
    have h1 := loadTo_mono (ab := ab) h k (by omega)
    have hf : l[k]? = some l[k] := List.getElem?_eq_getElem (by omega)
    have h2 := h k _ hf
    rw [loadTo_succ hf, loadTo_succ hf]
    have h3 : F l[k] * l[k].size ≤ G l[k] * l[k].size := Int.mul_le_mul_of_nonneg_right h2.1 h2.2
    split <;> omega
theorem busyS_mono {l : List MFrame} {ab : Nat → Bool} {block : Int} {own : MFrame} (hF : ∀ (k : Nat) (f : MFrame), l[k]? = some f → FOk f) (hO : FOk own) {a b : Int} (h : a ≤ b) : busyS l ab block own a ≤ busyS l ab block own b := by
  unfold busyS
  have h1 := loadTo_mono (l := l) (ab := ab) (F := manyUp a) (G := manyUp b) (fun k f hf => ⟨manyUp_mono (hF k f hf) h, by have := (hF k f hf).1.1; omega⟩) l.length (Nat.le_refl _)
  have h2 := Int.mul_le_mul_of_nonneg_right (manyUp_mono hO h) (show 0 ≤ own.size by have := hO.1.1; omega)
  omega
theorem waitS_mono {l : List MFrame} {ab : Nat → Bool} {block q : Int} {own : MFrame} (hF : ∀ (k : Nat) (f : MFrame), l[k]? = some f → FOk f) {a b : Int} (h : a ≤ b) : waitS l ab block own q a ≤ waitS l ab block own q b := by
  unfold waitS
  have h1 := loadTo_mono (l := l) (ab := ab) (F := manyAt a) (G := manyAt b) (fun k f hf => ⟨manyAt_mono (hF k f hf) h, by have := (hF k f hf).1.1; omega⟩) l.length (Nat.le_refl _)
  omega
/-- what stands in the way: the greatest size less 1 of the first k frames that are neither the frame nor above it -/
def blockTo (l : List MFrame) (ab : Nat → Bool) (i : Nat) : Nat → Int
  | 0 => 0
  | k + 1 => if k ≠ i ∧ ab k = false then max (blockTo l ab i k) ((l.getD k ⟨0, 0, 0, 0, 0⟩).size - 1) else blockTo l ab i k
/-- the longest of the first q waits; none: one has none -/
def longTo (l : List MFrame) (ab : Nat → Bool) (block : Int) (own : MFrame) : Nat → Option Int
  | 0 => some 0
  | q + 1 => match longTo l ab block own q with
    | none => none
    | some m => match settleS (waitS l ab block own q) 1000002 (block + q * own.size) with
      | none => none
      | some w => some (max m (w + own.size + own.jitter - q * own.every))
def respS (l : List MFrame) (ab : Nat → Bool) (i : Nat) : Option Int :=
  let own := l.getD i ⟨0, 0, 0, 0, 0⟩
  let block := blockTo l ab i l.length
  match settleS (busyS l ab block own) 1000002 1 with
  | none => none
  | some busy => longTo l ab block own ((busy + own.jitter + own.every - 1) / own.every).toNat
end Go.Proofs.Ytlbbhlkbhegegaa
