/- Walks: what the laws leave out: Far, large. -/
import Derived.Test.YtegclodchhcbaaaRq
namespace Go.Proofs.Ytegclodchhcbaaa
open Go.RowKit

def farB (g : MGrid) : Bool := decide (50 < g.lines.length) || (decide (10 < g.srcs.length) || decide (25 < g.users.length))
set_option maxRecDepth 100000 in
theorem far_any (g : MGrid) (A1 A2 A3 : Option Addr) (c1 c2 c3 : Nat) (w : World) (h : GridA w w.heap.size g A1 A2 A3) {b : Bool} (hb : farB g = b) :
    Calls Try.prog 38 #[.agg (gridC g A1 A2 A3 c1 c2 c3)] w fun e w' => e = .returned (.bool b) ∧ Below w.heap.size w w' := by
  unfold gridC
  have hl1 := h.ls.1
  have hl2 := h.ss.1
  have hl3 := h.us.1
  unfold maxLen at hl1 hl2 hl3
  have hb1 : Below w.heap.size w (w.alloc (.cells #[.int .i64 g.nodes, .slice A1 g.lines.length c1, .slice A2 g.srcs.length c2, .slice A3 g.users.length c3] 26)) := (Below.refl _ _).alloc (Nat.le_refl _) _
  have HB1 := Lib.hid hb1
  have HB := Lib.hid hb
  clear h hb hb1
  by_cases k1 : 50 < g.lines.length
  · have HV : Hid (farB g = true) := by show _ = _; unfold farB; rw [decide_eq_true k1]; rfl
    go_enter Try.func38, Try.ntmps38
    go_wp2_with fail
    go_ret
    exact ⟨ret_b (by rw [← HB.out, HV.out]), HB1.out⟩
  by_cases k2 : 10 < g.srcs.length
  · have HV : Hid (farB g = true) := by show _ = _; unfold farB; rw [decide_eq_true k2]; simp
    go_enter Try.func38, Try.ntmps38
    go_wp2_with fail
    go_ret
    exact ⟨ret_b (by rw [← HB.out, HV.out]), HB1.out⟩
  by_cases k3 : 25 < g.users.length
  · have HV : Hid (farB g = true) := by show _ = _; unfold farB; rw [decide_eq_true k3]; simp
    go_enter Try.func38, Try.ntmps38
    go_wp2_with fail
    go_ret
    exact ⟨ret_b (by rw [← HB.out, HV.out]; simp; omega), HB1.out⟩
  · have HV : Hid (farB g = false) := by show _ = _; unfold farB; rw [decide_eq_false k1, decide_eq_false k2, decide_eq_false k3]; rfl
    go_enter Try.func38, Try.ntmps38
    go_wp2_with fail
    go_ret
    exact ⟨ret_b (by rw [← HB.out, HV.out]; simp; omega), HB1.out⟩
def caseC (g : MGrid) (A1 A2 A3 : Option Addr) (c1 c2 c3 : Nat) (A : Option Addr) (cap : Nat) (F : List MFault) (Aw : Option Addr) (wc : Nat) (want : List Int) : Array Value :=
  #[.int .i64 g.nodes, .slice A1 g.lines.length c1, .slice A2 g.srcs.length c2, .slice A3 g.users.length c3, .slice A F.length cap, .slice Aw want.length wc]
def largeB (g : MGrid) (F : List MFault) (want : List Int) : Bool := farB g || (decide (15 < F.length) || decide (30 < want.length))
set_option maxRecDepth 100000 in
theorem large_any (g : MGrid) (A1 A2 A3 : Option Addr) (c1 c2 c3 : Nat) (A : Option Addr) (cap : Nat) (F : List MFault) (Aw : Option Addr) (wc : Nat) (want : List Int) (w : World) (h : GridA w w.heap.size g A1 A2 A3) (hf : FaultsA w w.heap.size A F) (hw : IntsA w w.heap.size Aw want) {b : Bool} (hb : largeB g F want = b) :
    Calls Try.prog 15 #[.agg (caseC g A1 A2 A3 c1 c2 c3 A cap F Aw wc want)] w fun e w' => e = .returned (.bool b) ∧ Below w.heap.size w w' := by
  unfold caseC
  have hl1 := hf.1
  have hl2 := hw.1
  unfold maxLen at hl1 hl2
  obtain ⟨w1, hw1⟩ : ∃ w1, w.alloc (.cells #[.int .i64 g.nodes, .slice A1 g.lines.length c1, .slice A2 g.srcs.length c2, .slice A3 g.users.length c3, .slice A F.length cap, .slice Aw want.length wc] 30) = w1 := ⟨_, rfl⟩
  have hb1 : Below w.heap.size w w1 := by rw [← hw1]; exact (Below.refl _ _).alloc (Nat.le_refl _) _
  have hs1 : w1.heap.size = w.heap.size + 1 := by rw [← hw1]; simp
  have hx1 : w1.heap[w.heap.size]? = some (.cells #[.int .i64 g.nodes, .slice A1 g.lines.length c1, .slice A2 g.srcs.length c2, .slice A3 g.users.length c3, .slice A F.length cap, .slice Aw want.length wc] 30 (0, 0)) := by rw [← hw1]; exact heap_alloc_new w _
  have HX : Hid (∀ W, Below w1.heap.size w1 W → Below w.heap.size w W ∧ W.cell? ⟨w.heap.size, 0, none⟩ = some (.int .i64 g.nodes) ∧ W.cell? ⟨w.heap.size, 1, none⟩ = some (.slice A1 g.lines.length c1) ∧ W.cell? ⟨w.heap.size, 2, none⟩ = some (.slice A2 g.srcs.length c2) ∧ W.cell? ⟨w.heap.size, 3, none⟩ = some (.slice A3 g.users.length c3) ∧ W.cell? ⟨w.heap.size, 4, none⟩ = some (.slice A F.length cap) ∧ W.cell? ⟨w.heap.size, 5, none⟩ = some (.slice Aw want.length wc)) := fun W hW => by
    have h1 := (hW.block w.heap.size (by omega)).trans hx1
    exact ⟨hb1.trans (hW.mono (by omega)), cell_of_row W _ 0 _ _ _ h1, cell_of_row W _ 1 _ _ _ h1, cell_of_row W _ 2 _ _ _ h1, cell_of_row W _ 3 _ _ _ h1, cell_of_row W _ 4 _ _ _ h1, cell_of_row W _ 5 _ _ _ h1⟩
  obtain ⟨_, p0, p1, p2, p3, p4, p5⟩ := HX.out w1 (Below.refl _ _)
  obtain ⟨fb, hfb⟩ : ∃ fb, farB g = fb := ⟨_, rfl⟩
  have HC := Lib.hid (far_any g A1 A2 A3 c1 c2 c3 w1 ((h.keep hb1).more hb1.size) hfb)
  unfold gridC at HC
  have hr : largeB g F want = (fb || (decide (15 < F.length) || decide (30 < want.length))) := by unfold largeB; rw [hfb]
  have HR : Hid ((fb || (decide (15 < F.length) || decide (30 < want.length))) = b) := by show _ = _; rw [← hr, hb]
  clear h hf hw hb1 hx1 hb hr hfb
  cases fb
  · by_cases k1 : 15 < F.length
    · have HV : Hid (true = b) := by show _ = _; rw [← HR.out, decide_eq_true k1]; rfl
      go_enter Try.func15, Try.ntmps15
      go_wp2_with (go_at_call 38; refine HC.out.mono ?_; rintro e w2 ⟨rfl, hb2⟩; have HB2 := Lib.hid hb2; clear hb2 p0 p1 p2 p3 p4 p5; obtain ⟨_, p0, p1, p2, p3, p4, p5⟩ := HX.out w2 HB2.out)
      go_ret
      exact ⟨ret_b HV.out, (HX.out _ HB2.out).1⟩
    by_cases k2 : 30 < want.length
    · have HV : Hid (true = b) := by show _ = _; rw [← HR.out, decide_eq_true k2]; simp
      go_enter Try.func15, Try.ntmps15
      go_wp2_with (go_at_call 38; refine HC.out.mono ?_; rintro e w2 ⟨rfl, hb2⟩; have HB2 := Lib.hid hb2; clear hb2 p0 p1 p2 p3 p4 p5; obtain ⟨_, p0, p1, p2, p3, p4, p5⟩ := HX.out w2 HB2.out)
      go_ret
      exact ⟨ret_b (by rw [← HV.out]; simp; omega), (HX.out _ HB2.out).1⟩
    · have HV : Hid (false = b) := by show _ = _; rw [← HR.out, decide_eq_false k1, decide_eq_false k2]; rfl
      go_enter Try.func15, Try.ntmps15
      go_wp2_with (go_at_call 38; refine HC.out.mono ?_; rintro e w2 ⟨rfl, hb2⟩; have HB2 := Lib.hid hb2; clear hb2 p0 p1 p2 p3 p4 p5; obtain ⟨_, p0, p1, p2, p3, p4, p5⟩ := HX.out w2 HB2.out)
      go_ret
      exact ⟨ret_b (by rw [← HV.out]; simp; omega), (HX.out _ HB2.out).1⟩
  · have HV : Hid (true = b) := by show _ = _; rw [← HR.out]; rfl
    go_enter Try.func15, Try.ntmps15
    go_wp2_with (go_at_call 38; refine HC.out.mono ?_; rintro e w2 ⟨rfl, hb2⟩; have HB2 := Lib.hid hb2; clear hb2 p0 p1 p2 p3 p4 p5)
    go_ret
    exact ⟨ret_b HV.out, (HX.out _ HB2.out).1⟩
end Go.Proofs.Ytegclodchhcbaaa
