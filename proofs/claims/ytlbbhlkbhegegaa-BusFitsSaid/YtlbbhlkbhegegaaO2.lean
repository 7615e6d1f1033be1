/- Arguments opened: changes, pairs of ints, slotted buses. -/
import Derived.Test.YtlbbhlkbhegegaaO1
namespace Go.Proofs.Ytlbbhlkbhegegaa
open Go.RowKit Go.ChangeShapes Go.WideShapes Go.ChangeAt Go.Deep Go.Joins
section
variable {H : Type} {enc : TypeId × Value → H} {w : World} {base : Nat} {spare : Nat → Bool} {held : Bool}
set_option maxRecDepth 100000 in
theorem open_change {r : Reach} {b0 : Nat} {v : Value} {d : DataW H} {p : List MemPlace} (hv : Value.okWide Try.prog w r b0 36 v) (h : DataW.Trod enc Try.prog w base spare held 36 v d p) :
    ∃ (a b c e : Int), v = .agg #[.int .i64 a, .int .i64 b, .int .i64 c, .int .i64 e] ∧ ((Lit.int .i64 a).wf = true ∧ (Lit.int .i64 b).wf = true ∧ (Lit.int .i64 c).wf = true ∧ (Lit.int .i64 e).wf = true) := by
  obtain ⟨v0, v1, v2, v3, y0, y1, y2, y3, fuel, rfl, _, _, h0, h1, h2, h3⟩ := open_agg4 Try.underlying36 (by kernel_rfl) (by kernel_rfl) hv h
  have e0 := numV_of Try.underlying3 h0
  have e1 := numV_of Try.underlying3 h1
  have e2 := numV_of Try.underlying3 h2
  have e3 := numV_of Try.underlying3 h3
  exact ⟨numV v0, numV v1, numV v2, numV v3, by rw [← e0.1, ← e1.1, ← e2.1, ← e3.1], e0.2, e1.2, e2.2, e3.2⟩
/-- a slice of structs of two ints, as pairs -/
theorem open_pairs {t e : TypeId} {f0 f1 : Field} {fuel : Nat} {cs : List Value} {x : DataW H × List MemPlace} (ht : Try.prog.underlying t = some (.slice e)) (he : Try.prog.underlying e = some (.struct #[f0, f1])) (h0 : f0.type = 3) (h1 : f1.type = 3)
    (hone : oneCellFields Try.prog #[f0, f1] = true) (hC : Try.prog.cellsOf e = 2) (h : DataW.trod enc Try.prog w base spare held fuel t cs = some x) :
    ∃ (A : Option Addr) (cap : Nat) (l : List MGate), cs = [.slice A l.length cap] ∧ l.length ≤ cap ∧ cap ≤ maxLen ∧ GatesA w w.heap.size A l ∧ ∀ g ∈ l, (Lit.int .i64 g.rate).wf = true ∧ (Lit.int .i64 g.delay).wf = true := by
  obtain ⟨A, len, cap, F, hcs, hl, hm, hS, hF⟩ := open_rows ht he hone hC (by simp) h
  have hn : ∀ i j, i < len → j < 2 → F i j = .int .i64 (numV (F i j)) ∧ (Lit.int .i64 (numV (F i j))).wf = true := fun i j hi hj => by
    match j, hj with
    | 0, _ => obtain ⟨n, y, hy⟩ := hF i 0 f0 hi rfl; rw [h0] at hy; exact numV_of Try.underlying3 hy
    | 1, _ => obtain ⟨n, y, hy⟩ := hF i 1 f1 hi rfl; rw [h1] at hy; exact numV_of Try.underlying3 hy
  refine ⟨A, cap, (List.range len).map fun i => ⟨numV (F i 0), numV (F i 1)⟩, by simpa using hcs, by simpa using hl, hm, fun hn0 => ?_, fun g hg => ?_⟩
  · simp only [List.length_map, List.length_range] at hn0 ⊢
    obtain ⟨b, off, hA, hlt, hc⟩ := hS hn0
    refine ⟨b, off, hA, hlt, fun i j hi hj => ?_⟩
    have h2 := hc i j hi hj
    rw [(hn i j hi hj).1] at h2
    refine h2.trans ?_
    unfold gateCell
    rw [range_getD _ _ hi]
    match j, hj with
    | 0, _ => rfl
    | 1, _ => rfl
  · obtain ⟨i, hi, rfl⟩ := List.mem_map.1 hg
    have hi := List.mem_range.1 hi
    exact ⟨(hn i 0 hi (by omega)).2, (hn i 1 hi (by omega)).2⟩
set_option maxRecDepth 100000 in
theorem open_slots {fuel : Nat} {cs : List Value} {x : DataW H × List MemPlace} (h : DataW.trod enc Try.prog w base spare held fuel 55 cs = some x) :
    ∃ (A : Option Addr) (cap : Nat) (l : List MGate), cs = [.slice A l.length cap] ∧ l.length ≤ cap ∧ cap ≤ maxLen ∧ GatesA w w.heap.size A l ∧ ∀ g ∈ l, (Lit.int .i64 g.rate).wf = true ∧ (Lit.int .i64 g.delay).wf = true :=
  open_pairs Try.underlying55 Try.underlying96 rfl rfl (by kernel_rfl) (by kernel_rfl) h
set_option maxRecDepth 100000 in
theorem open_releases {fuel : Nat} {cs : List Value} {x : DataW H × List MemPlace} (h : DataW.trod enc Try.prog w base spare held fuel 60 cs = some x) :
    ∃ (A : Option Addr) (cap : Nat) (l : List MGate), cs = [.slice A l.length cap] ∧ l.length ≤ cap ∧ cap ≤ maxLen ∧ GatesA w w.heap.size A l ∧ ∀ g ∈ l, (Lit.int .i64 g.rate).wf = true ∧ (Lit.int .i64 g.delay).wf = true :=
  open_pairs Try.underlying60 Try.underlying63 rfl rfl (by kernel_rfl) (by kernel_rfl) h
set_option maxRecDepth 100000 in
theorem open_slotted {r : Reach} {b0 : Nat} {v : Value} {d : DataW H} {p : List MemPlace} (hv : Value.okWide Try.prog w r b0 54 v) (h : DataW.Trod enc Try.prog w base spare held 54 v d p) :
    ∃ (a b : Int) (A : Option Addr) (cap : Nat) (l : List MGate), v = .agg #[.int .i64 a, .int .i64 b, .slice A l.length cap] ∧ l.length ≤ cap ∧ cap ≤ maxLen ∧ GatesA w w.heap.size A l ∧ ((Lit.int .i64 a).wf = true ∧ (Lit.int .i64 b).wf = true ∧ ∀ g ∈ l, (Lit.int .i64 g.rate).wf = true ∧ (Lit.int .i64 g.delay).wf = true) := by
  obtain ⟨v0, v1, v2, y0, y1, y2, fuel, rfl, _, _, h0, h1, h2⟩ := open_agg3 Try.underlying54 (by kernel_rfl) (by kernel_rfl) hv h
  have e0 := numV_of Try.underlying3 h0
  have e1 := numV_of Try.underlying3 h1
  obtain ⟨A, cap, l, hcs, hl, hm, hG, hw⟩ := open_pairs Try.underlying52 Try.underlying98 rfl rfl (by kernel_rfl) (by kernel_rfl) h2
  injection hcs with hcs
  subst hcs
  exact ⟨numV v0, numV v1, A, cap, l, by rw [← e0.1, ← e1.1], hl, hm, hG, e0.2, e1.2, hw⟩
end
end Go.Proofs.Ytlbbhlkbhegegaa
