/- What the tied cards' condition gives: the table of math/bits lies in block 1. -/
import Derived.Test.YtonpemikodajdaaDoorRows
import Derived.Test.YtonpemikodajdaaDoorCs
import Derived.ProofKit
import Derived.LaidMore
import Derived.OpenShut
import Derived.Stop.Joined
namespace Go.Proofs.YtonpemikodajdaaDoor
open Go.RowKit Go.ChangeShapes Go.WideShapes Go.ChangeAt

def laidL : List (String × DataW Unit) := [("math/bits.deBruijn32tab", Rows.laid_math_bits_deBruijn32tab), ("math/bits.deBruijn64tab", Rows.laid_math_bits_deBruijn64tab)]
theorem ownK : ownKnob Tryd.prog.godebug = none := by kernel_rfl
theorem g32 : Tryd.prog.globalNamed "math/bits.deBruijn32tab" = some 0 := by kernel_rfl
theorem g64 : Tryd.prog.globalNamed "math/bits.deBruijn64tab" = some 1 := by kernel_rfl
theorem door_met (os : Os) (args : Array Value) : laidMetH Tryd.prog laidL ((World.doorLaid Tryd.prog 4000 os).forCall (fun _ _ => 0) ⟨#[], args, []⟩).memory :=
  laidMetH_of_parts3 (fuel := 8) (laidMet_of_run' 8 (by kernel_rfl) (by kernel_rfl)) (by kernel_rfl) (by kernel_rfl)
set_option maxRecDepth 100000 in
theorem of_laid {W : World} (h : laidMetH Tryd.prog laidL W) : TabW W := by
  rw [MakeChecks.laidMetH_plain _ _ _ (by kernel_rfl)] at h
  obtain ⟨ps, ⟨g0, t0, cs0, f0, p0, q0, hg0, ht0, hv0, hd0, ⟨g1, t1, cs1, f1, p1, q1, hg1, ht1, hv1, hd1, _, _⟩, _⟩, _, _⟩ := h
  obtain rfl := Option.some.inj (g64.symm.trans hg1)
  obtain rfl := Option.some.inj ((show (Tryd.prog.globals[1]?).map (·.type) = some 175 by kernel_rfl).symm.trans ht1)
  have hu : Tryd.prog.underlying 175 = some (.array 64 5) := by kernel_rfl
  have hu5 : Tryd.prog.underlying 5 = some (.int .u8) := by kernel_rfl
  have c5 : Tryd.prog.cellsOf 5 = 1 := by kernel_rfl
  have hcell := World.var?_cell hg1 hv1
  obtain ⟨xs, m1, rfl, hx1, hlen, hn3, hel⟩ := DataW.trod_array hu hd1
  simp only [Prod.mk.injEq] at hx1
  have hxs : xs.map (·.1) = (tabL.map fun n : Nat => (DataW.lit (.int .u8 (n : Int)) : DataW Unit)) := by
    have h0 := hx1.1
    unfold Rows.laid_math_bits_deBruijn64tab at h0
    injection h0 with h0
    rw [← h0]
    rfl
  have hget : ∀ j, j < 64 → cs1[j]? = some (.int .u8 (tabL.getD j 0)) := fun j hj => by
    have h0 := hel j hj
    rw [c5] at h0
    have hj' : j < xs.length := by omega
    rw [List.getElem?_eq_getElem hj'] at h0
    obtain ⟨k, e1, e2, _⟩ := DataW.trod_int hu5 h0
    have e3 : (xs.map (·.1))[j]? = some (.lit (.int .u8 k)) := by rw [List.getElem?_map, List.getElem?_eq_getElem hj', e2]; rfl
    have hj2 : j < tabL.length := hj
    rw [hxs, List.getElem?_map, List.getElem?_eq_getElem hj2] at e3
    simp only [Option.map_some, Option.some.injEq, DataW.lit.injEq, Lit.int.injEq, true_and] at e3
    have e4 : (cs1.toList.drop (j * 1)).head? = some (.int .u8 k) := by
      have := congrArg List.head? e1
      rw [List.head?_take] at this
      simpa using this
    rw [List.head?_drop, Nat.mul_one] at e4
    rw [List.getD_eq_getElem?_getD, List.getElem?_eq_getElem hj2]
    rw [← Array.getElem?_toList, e4, ← e3]
    rfl
  have hlt : 1 < W.heap.size := by
    have h0 := (hcell 0).trans (hget 0 (by decide))
    exact World.block_lt_of_cell? W ⟨1, 0, none⟩ h0
  exact ⟨hlt, fun j hj => (hcell j).trans (hget j hj)⟩
end Go.Proofs.YtonpemikodajdaaDoor
