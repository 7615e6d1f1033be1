/- An argument opened: a bridge. -/
import Derived.Test.YtegclodchhcbaaaO1
namespace Go.Proofs.Ytegclodchhcbaaa
open Go.RowKit Go.ChangeShapes Go.WideShapes Go.ChangeAt Go.Deep Go.Joins

section
variable {H : Type} {enc : TypeId × Value → H} {w : World} {base : Nat} {spare : Nat → Bool} {held : Bool}
set_option maxRecDepth 100000 in
/-- a struct of two fields of one cell and a wide one -/
theorem open114 {t : TypeId} {f0 f1 f2 : Field} {fuel : Nat} {cs : List Value} {x : DataW H × List MemPlace} (hs : Try.prog.underlying t = some (.struct #[f0, f1, f2])) (hk : (f0.offset, Try.prog.cellsOf f0.type, f1.offset, Try.prog.cellsOf f1.type, f2.offset, Try.prog.cellsOf f2.type) = (0, 1, 1, 1, 2, 4)) (hC : Try.prog.cellsOf t = 6)
    (h : DataW.trod enc Try.prog w base spare held fuel t cs = some x) :
    ∃ (v0 v1 v2 v3 v4 v5 : Value) (y0 y1 y2 : DataW H × List MemPlace) (n : Nat), cs = [v0, v1, v2, v3, v4, v5] ∧
      DataW.trod enc Try.prog w base spare held n f0.type [v0] = some y0 ∧ DataW.trod enc Try.prog w base spare held n f1.type [v1] = some y1 ∧ DataW.trod enc Try.prog w base spare held n f2.type [v2, v3, v4, v5] = some y2 := by
  obtain ⟨xs, n, _, _, hl, hlen, hf⟩ := DataW.trod_struct hs h
  rw [hC] at hl
  simp only [Prod.mk.injEq] at hk
  obtain ⟨o0, k0, o1, k1, o2, k2⟩ := hk
  have h0 := hf 0 f0 rfl
  have h1 := hf 1 f1 rfl
  have h2 := hf 2 f2 rfl
  match xs, hlen with
  | [y0, y1, y2], _ =>
    match cs, hl with
    | [v0, v1, v2, v3, v4, v5], _ => exact ⟨v0, v1, v2, v3, v4, v5, y0, y1, y2, n, rfl, by simpa [o0, k0] using h0, by simpa [o1, k1] using h1, by simpa [o2, k2] using h2⟩
set_option maxRecDepth 100000 in
theorem open_bridge {r : Reach} {b0 : Nat} {v : Value} {d : DataW H} {p : List MemPlace} (hv : Value.okWide Try.prog w r b0 69 v) (h : DataW.Trod enc Try.prog w base spare held 69 v d p) :
    ∃ (k0 k1 k2 k3 k4 : Int) (k5 : Bool), v = .agg #[.int .i64 k0, .int .i64 k1, .int .i64 k2, .int .i64 k3, .int .i64 k4, .bool k5] := by
  obtain ⟨cs, rfl, _⟩ := okWide_struct Try.underlying69 hv
  obtain ⟨fuel, hf⟩ := h
  obtain ⟨u0, u1, u2, u3, u4, u5, y0, y1, y2, n, e, h0, h1, h2⟩ := open114 Try.underlying69 (by kernel_rfl) (by kernel_rfl) hf
  obtain ⟨z0, z1, z2, z3, x0, x1, x2, x3, n', e', g0, g1, g2, g3⟩ := open4 Try.underlying67 (by kernel_rfl) (by kernel_rfl) h2
  injection e' with e0 e'
  injection e' with e1 e'
  injection e' with e2 e'
  injection e' with e3 e'
  subst e0 e1 e2 e3
  refine ⟨numV u0, numV u1, numV u2, numV u3, numV u4, boolV u5, ?_⟩
  obtain ⟨l⟩ := cs
  have e : l = [u0, u1, u2, u3, u4, u5] := e
  rw [e, ← (numV_of Try.underlying3 h0).1, ← (numV_of Try.underlying3 h1).1, ← (numV_of Try.underlying3 g0).1, ← (numV_of Try.underlying3 g1).1, ← (numV_of Try.underlying3 g2).1, ← boolV_of g3]
end
end Go.Proofs.Ytegclodchhcbaaa
