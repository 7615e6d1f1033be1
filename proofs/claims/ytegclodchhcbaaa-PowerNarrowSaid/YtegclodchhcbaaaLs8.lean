/- Law: by how much a user can grow. -/
import Derived.Test.YtegclodchhcbaaaQr
import Derived.Test.YtegclodchhcbaaaQo
import Derived.Test.YtegclodchhcbaaaLa
namespace Go.Proofs.Ytegclodchhcbaaa
open Go.RowKit

theorem far_few {g : MGrid} (h : farB g = false) : FewG g := by
  unfold farB at h
  simp only [Bool.or_eq_false_iff, decide_eq_false_iff_not] at h
  exact ⟨by omega, by omega, by omega⟩
set_option maxRecDepth 100000 in
set_option maxHeartbeats 8000000 in
theorem spares_any (g : MGrid) (A1 A2 A3 : Option Addr) (c1 c2 c3 : Nat) (u : Int) (w : World) (h : GridA w w.heap.size g A1 A2 A3) (_hi : (Lit.int .i64 u).wf = true) :
    Calls Try.prog 10 #[.agg (gridC g A1 A2 A3 c1 c2 c3), .int .i64 u] w fun e w' => e = .returned (.bool true) ∧ Below w.heap.size w w' := by
  obtain ⟨w1, hw1⟩ : ∃ w1, w.alloc (.cells #[.int .i64 g.nodes, .slice A1 g.lines.length c1, .slice A2 g.srcs.length c2, .slice A3 g.users.length c3] 26) = w1 := ⟨_, rfl⟩
  have hb1 : Below w.heap.size w w1 := by rw [← hw1]; exact (Below.refl _ _).alloc (Nat.le_refl _) _
  have hs1 : w1.heap.size = w.heap.size + 1 := by rw [← hw1]; simp
  have hx1 : w1.heap[w.heap.size]? = some (.cells #[.int .i64 g.nodes, .slice A1 g.lines.length c1, .slice A2 g.srcs.length c2, .slice A3 g.users.length c3] 26 (0, 0)) := by rw [← hw1]; exact heap_alloc_new w _
  have HX : Hid (∀ W, Below w1.heap.size w1 W → Below w.heap.size w W ∧ W.cell? ⟨w.heap.size, 0, none⟩ = some (.int .i64 g.nodes) ∧ W.cell? ⟨w.heap.size, 1, none⟩ = some (.slice A1 g.lines.length c1) ∧ W.cell? ⟨w.heap.size, 2, none⟩ = some (.slice A2 g.srcs.length c2) ∧ W.cell? ⟨w.heap.size, 3, none⟩ = some (.slice A3 g.users.length c3)) := fun W hW => by
    have h1 := (hW.block w.heap.size (by omega)).trans hx1
    exact ⟨hb1.trans (hW.mono (by omega)), cell_of_row W _ 0 _ _ _ h1, cell_of_row W _ 1 _ _ _ h1, cell_of_row W _ 2 _ _ _ h1, cell_of_row W _ 3 _ _ _ h1⟩
  have HG : Hid (∀ W, Below w1.heap.size w1 W → GridA W W.heap.size g A1 A2 A3) := fun W hW => (h.keep (HX.out W hW).1).more (HX.out W hW).1.size
  obtain ⟨_, p0, p1, p2, p3⟩ := HX.out w1 (Below.refl _ _)
  obtain ⟨fb, hfb⟩ : ∃ fb, farB g = fb := ⟨_, rfl⟩
  have HFR : Hid (∀ W, Below w1.heap.size w1 W → Calls Try.prog 38 #[.agg (gridC g A1 A2 A3 c1 c2 c3)] W fun e w' => e = .returned (.bool fb) ∧ Below W.heap.size W w') := fun W hW => far_any g A1 A2 A3 c1 c2 c3 W (HG.out W hW) hfb
  have HWK := Lib.hid works_any
  have HB0 : Hid (Below w1.heap.size w1 w1) := Below.refl _ _
  have hl := (HG.out w1 HB0.out)
  have HLN : Hid (g.lines.length ≤ maxLen ∧ g.srcs.length ≤ maxLen ∧ g.users.length ≤ maxLen) := ⟨hl.ls.1, hl.ss.1, hl.us.1⟩
  clear hl
  cases fb
  · have hfew := far_few hfb
    obtain ⟨a, b, hab⟩ := spare_det g u
    have HCP : Hid (∀ W, Below w1.heap.size w1 W → Calls Try.prog 40 #[.agg (gridC g A1 A2 A3 c1 c2 c3)] W fun e w' => ∃ B1 B2 B3 d1 d2 d3, e = .returned (.agg #[.int .i64 g.nodes, .slice B1 g.lines.length d1, .slice B2 g.srcs.length d2, .slice B3 g.users.length d3]) ∧ GridA w' w'.heap.size g B1 B2 B3 ∧ Below W.heap.size W w') := fun W hW => (copy_any g A1 A2 A3 c1 c2 c3 W (HG.out W hW) hfew).mono fun e w' ⟨B1, B2, B3, d1, d2, d3, he, ho, _, hb⟩ => ⟨B1, B2, B3, d1, d2, d3, he, ho.grid HLN.out.1 HLN.out.2.1 HLN.out.2.2, hb⟩
    have H39 : Hid (∀ W B1 B2 B3 d1 d2 d3, GridA W W.heap.size g B1 B2 B3 → Calls Try.prog 39 #[.agg #[.int .i64 g.nodes, .slice B1 g.lines.length d1, .slice B2 g.srcs.length d2, .slice B3 g.users.length d3], .int .i64 u] W fun e w' => e = .returned (.tuple #[.int .i64 a, .int .i64 b]) ∧ Below W.heap.size W w') := fun W B1 B2 B3 d1 d2 d3 hg => (oSpare_any g B1 B2 B3 d1 d2 d3 u W hg).mono fun e w' hp => hab _ _ _ hp
    have H41 : Hid (∀ W, Below w1.heap.size w1 W → Calls Try.prog 41 #[.agg #[.int .i64 g.nodes, .slice A1 g.lines.length c1, .slice A2 g.srcs.length c2, .slice A3 g.users.length c3], .int .i64 u] W fun e w' => e = .returned (.tuple #[.int .i64 a, .int .i64 b]) ∧ Below W.heap.size W w') := fun W hW => (rSpare_any g A1 A2 A3 c1 c2 c3 u W (HG.out W hW)).mono fun e w' hp => hab _ _ _ hp
    unfold gridC at HFR HCP ⊢
    clear hfb hb1 hx1 h hab hfew
    go_enter Try.func10, Try.ntmps10
    go_wp2_with (first
      | (go_at_call 38; refine (HFR.out _ HB0.out).mono ?_; rintro e w2 ⟨rfl, hb2⟩; have HB2 : Below w1.heap.size w1 w2 := hb2; clear hb2 p0 p1 p2 p3; obtain ⟨_, p0, p1, p2, p3⟩ := HX.out w2 HB2)
      | (go_at_call 40; refine (HCP.out _ HB2).mono ?_; rintro e w3 ⟨B1, B2, B3, d1, d2, d3, rfl, hg3, hb3⟩; have HG3 := Lib.hid hg3; have HB3 : Below w1.heap.size w1 w3 := bel_next HB2 hb3; clear hg3 hb3)
      | (go_at_call 39; refine (H39.out _ B1 B2 B3 d1 d2 d3 HG3.out).mono ?_; rintro e w4 ⟨rfl, hb4⟩; have HB4 : Below w1.heap.size w1 w4 := bel_next HB3 hb4; clear hb4 p0 p1 p2 p3; obtain ⟨_, p0, p1, p2, p3⟩ := HX.out w4 HB4)
      | (go_at_call 41; refine (H41.out _ HB4).mono ?_; rintro e w5 ⟨rfl, hb5⟩; have HB5 : Below w1.heap.size w1 w5 := bel_next HB4 hb5; clear hb5)
      | (go_at_call 16; refine (HWK.out _).mono ?_; rintro e w6 ⟨rfl, hb6⟩; have HB6 : Below w1.heap.size w1 w6 := bel_next HB5 hb6; clear hb6)
      | fail)
    go_ret
    exact ⟨rfl, (HX.out _ HB6).1⟩
  · unfold gridC at HFR ⊢
    clear hfb hb1 hx1 h
    go_enter Try.func10, Try.ntmps10
    go_wp2_with (first
      | (go_at_call 38; refine (HFR.out _ HB0.out).mono ?_; rintro e w2 ⟨rfl, hb2⟩; have HB2 : Below w1.heap.size w1 w2 := hb2; clear hb2 p0 p1 p2 p3)
      | (go_at_call 16; refine (HWK.out _).mono ?_; rintro e w6 ⟨rfl, hb6⟩; have HB6 : Below w1.heap.size w1 w6 := bel_next HB2 hb6; clear hb6)
      | fail)
    go_ret
    exact ⟨rfl, (HX.out _ HB6).1⟩
end Go.Proofs.Ytegclodchhcbaaa
