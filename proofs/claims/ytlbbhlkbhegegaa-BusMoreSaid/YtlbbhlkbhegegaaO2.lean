/- Arguments opened: changes. -/
import Derived.Test.YtlbbhlkbhegegaaO1
namespace Go.Proofs.Ytlbbhlkbhegegaa
open Go.RowKit Go.ChangeShapes Go.WideShapes Go.ChangeAt Go.Deep Go.Joins
section
variable {H : Type} {enc : TypeId × Value → H} {w : World} {base : Nat} {spare : Nat → Bool} {held : Bool}
set_option maxRecDepth 100000 in
theorem open_change {r : Reach} {b0 : Nat} {v : Value} {d : DataW H} {p : List MemPlace} (hv : Value.okWide Try.prog w r b0 36 v) (h : DataW.Trod enc Try.prog w base spare held 36 v d p) :
    ∃ (a b c e : Int), v = .agg #[.int .i64 a, .int .i64 b, .int .i64 c, .int .i64 e] ∧ ((Lit.int .i64 a).wf = true ∧ (Lit.int .i64 b).wf = true ∧ (Lit.int .i64 c).wf = true ∧ (Lit.int .i64 e).wf = true) := by
  obtain ⟨v0, v1, v2, v3, y0, y1, y2, y3, fuel, rfl, _, _, h0, h1, h2, h3⟩ := open_agg4 Try.underlying36 (by kernel_rfl) (by kernel_rfl) hv h
  have e0 := numV_of Try.underlying3 h0
  have e1 := numV_of Try.underlying3 h1
  have e2 := numV_of Try.underlying3 h2
  have e3 := numV_of Try.underlying3 h3
  exact ⟨numV v0, numV v1, numV v2, numV v3, by rw [← e0.1, ← e1.1, ← e2.1, ← e3.1], e0.2, e1.2, e2.2, e3.2⟩
end
end Go.Proofs.Ytlbbhlkbhegegaa
