/- Plain: the table of trailing zeros, held for all small numbers. -/
import Derived.Test.YtonpemikodajdaaDoorLaws
import Derived.Test.YtonpemikodajdaaDoorGd1
namespace Go.Proofs.YtonpemikodajdaaDoor
open Go.RowKit

def tabL : List Nat := [0, 1, 56, 2, 57, 49, 28, 3, 61, 58, 42, 50, 38, 29, 17, 4, 62, 47, 59, 36, 45, 43, 51, 22, 53, 39, 33, 30, 24, 18, 12, 5, 63, 55, 48, 27, 60, 41, 37, 16, 46, 35, 44, 21, 52, 32, 23, 11, 54, 26, 40, 15, 34, 20, 31, 10, 25, 14, 19, 9, 13, 8, 7, 6]
/-- the table of the library lies in block 1 -/
def TabW (w : World) : Prop := 1 < w.heap.size ∧ ∀ j, j < 64 → w.cell? ⟨1, j, none⟩ = some (.int .u8 (tabL.getD j 0))
theorem TabW.below {w w' : World} {B : Nat} (h : TabW w) (hb : Below B w w') (hB : 1 < B) : TabW w' :=
  ⟨by have := hb.size; have := h.1; omega, fun j hj => (bcell hb _ _ hB).trans (h.2 j hj)⟩
theorem TabW.keep {w w' : World} (h : TabW w) (hb : Below w.heap.size w w') : TabW w' := ⟨by have := hb.size; have := h.1; omega, fun j hj => (bcell hb _ _ h.1).trans (h.2 j hj)⟩
def tzN (x : Nat) : Nat := (bitsOf x).headD 0
def tzI (x : Nat) : Int := IntKind.u64.wrap (bits BinOp.and IntKind.u64 (x : Int) (IntKind.u64.wrap (-(x : Int))) * 285870213051353865) / 288230376151711744
def tzOk (x : Nat) : Bool := x == 0 || (decide (0 ≤ tzI x ∧ tzI x < 64) && tabL.getD (tzI x).toNat 0 == tzN x && bitsOf x == tzN x :: bitsOf (x &&& (x - 1)) && decide (x &&& (x - 1) < x) && decide (bits BinOp.and IntKind.u64 (x : Int) ((x : Int) - 1) = ((x &&& (x - 1) : Nat) : Int)))
theorem tz_all : (List.range 4096).all tzOk = true := by decide +kernel
end Go.Proofs.YtonpemikodajdaaDoor
