/- Walks: the parts of a case in new memory. -/
import Derived.Test.YtegclodchhcbaaaCc
namespace Go.Proofs.Ytegclodchhcbaaa
open Go.RowKit

set_option maxRecDepth 100000 in
set_option maxHeartbeats 4000000 in
theorem grid_any (g : MGrid) (A1 A2 A3 : Option Addr) (c1 c2 c3 : Nat) (A : Option Addr) (cap : Nat) (F : List MFault) (Aw : Option Addr) (wc : Nat) (want : List Int) (w : World) (h : GridA w w.heap.size g A1 A2 A3) (hf : FewG g) :
    Calls Try.prog 18 #[.agg (caseC g A1 A2 A3 c1 c2 c3 A cap F Aw wc want)] w (CopyP g w) := by
  unfold caseC
  obtain ⟨w1, hw1⟩ : ∃ w1, w.alloc (.cells #[.int .i64 g.nodes, .slice A1 g.lines.length c1, .slice A2 g.srcs.length c2, .slice A3 g.users.length c3, .slice A F.length cap, .slice Aw want.length wc] 30) = w1 := ⟨_, rfl⟩
  obtain ⟨w2, hw2⟩ : ∃ w2, w1.alloc (.cells #[.int .i64 0, .slice none 0 0, .slice none 0 0, .slice none 0 0] 26) = w2 := ⟨_, rfl⟩
  have hb1 : Below w.heap.size w w1 := by rw [← hw1]; exact (Below.refl _ _).alloc (Nat.le_refl _) _
  have hs1 : w1.heap.size = w.heap.size + 1 := by rw [← hw1]; simp
  have hb2 : Below w1.heap.size w1 w2 := by rw [← hw2]; exact (Below.refl _ _).alloc (Nat.le_refl _) _
  have hs2 : w2.heap.size = w.heap.size + 2 := by rw [← hw2]; simp; omega
  have hx1 : w1.heap[w.heap.size]? = some (.cells #[.int .i64 g.nodes, .slice A1 g.lines.length c1, .slice A2 g.srcs.length c2, .slice A3 g.users.length c3, .slice A F.length cap, .slice Aw want.length wc] 30 (0, 0)) := by rw [← hw1]; exact heap_alloc_new w _
  have hx2 : w2.heap[w1.heap.size]? = some (.cells #[.int .i64 0, .slice none 0 0, .slice none 0 0, .slice none 0 0] 26 (0, 0)) := by rw [← hw2]; exact heap_alloc_new w1 _
  rw [hs1] at hx2
  have h12 : Below w.heap.size w w2 := hb1.trans (hb2.mono (by omega))
  have hx1' := (hb2.block w.heap.size (by omega)).trans hx1
  have p0 := cell_of_row w2 _ 0 _ _ _ hx1'
  have p1 := cell_of_row w2 _ 1 _ _ _ hx1'
  have p2 := cell_of_row w2 _ 2 _ _ _ hx1'
  have p3 := cell_of_row w2 _ 3 _ _ _ hx1'
  simp only [List.getElem?_toArray, List.getElem?_cons_succ, List.getElem?_cons_zero] at p0 p1 p2 p3
  have HC := Lib.hid (copy_any g A1 A2 A3 c1 c2 c3 w2 ((h.keep h12).more h12.size) hf)
  have HR : Hid (∀ W, Below w2.heap.size w2 W → W.heap[w.heap.size + 1]? = some (.cells #[.int .i64 0, .slice none 0 0, .slice none 0 0, .slice none 0 0] 26 (0, 0))) := fun W hW => (hW.block _ (by omega)).trans hx2
  have HS2 := Lib.hid hs2
  have H12 := Lib.hid h12
  unfold gridC at HC
  clear h hf hb1 hb2 hx1 hx2 hs2 hx1' h12
  go_enter Try.func18, Try.ntmps18
  go_wp2_with (go_at_call 40; refine HC.out.mono ?_; rintro e w6 ⟨B1, B2, B3, d1, d2, d3, rfl, hg6, hd6, hb6⟩; unfold gridC; have HG6 := Lib.hid hg6; have HD6 := Lib.hid hd6; have HB6 := Lib.hid hb6; have hh6 := HR.out w6 hb6; have y0 := cell_of_row w6 _ 0 _ _ _ hh6; have y1 := cell_of_row w6 _ 1 _ _ _ hh6; have y2 := cell_of_row w6 _ 2 _ _ _ hh6; have y3 := cell_of_row w6 _ 3 _ _ _ hh6; have f0 := row_frozen hh6 0; have f1 := row_frozen hh6 1; have f2 := row_frozen hh6 2; have f3 := row_frozen hh6 3; simp only [List.getElem?_toArray, List.getElem?_cons_succ, List.getElem?_cons_zero] at y0 y1 y2 y3; have HH6 := Lib.hid hh6; clear hh6 hg6 hd6 hb6 p0 p1 p2 p3)
  have hs2 := HS2.out
  exact bodyPost_ret (results_grid rfl _ _ (w.heap.size + 1) _ rfl rfl (set4_heap HH6.out _ _ _ _)) rfl ⟨B1, B2, B3, d1, d2, d3, rfl, (set4_own HG6.out (by omega) _ _ _ _).base (by omega), HD6.out, set4_below (H12.out.trans (HB6.out.mono H12.out.size)) (by omega) _ _ _ _⟩
set_option maxRecDepth 100000 in
set_option maxHeartbeats 4000000 in
theorem faults_any (g : MGrid) (A1 A2 A3 : Option Addr) (c1 c2 c3 : Nat) (A : Option Addr) (cap : Nat) (F : List MFault) (Aw : Option Addr) (wc : Nat) (want : List Int) (w : World) (h : FaultsA w w.heap.size A F) (hl : F.length ≤ 1000) :
    Calls Try.prog 19 #[.agg (caseC g A1 A2 A3 c1 c2 c3 A cap F Aw wc want)] w fun e w' => ∃ A' c', e = .returned (.slice A' F.length c') ∧ F.length ≤ c' ∧ RowO w' w.heap.size 41 2 A' F.length (faultCell F) ∧ Below w.heap.size w w' := by
  unfold caseC
  obtain ⟨w1, hw1⟩ : ∃ w1, w.alloc (.cells #[.int .i64 g.nodes, .slice A1 g.lines.length c1, .slice A2 g.srcs.length c2, .slice A3 g.users.length c3, .slice A F.length cap, .slice Aw want.length wc] 30) = w1 := ⟨_, rfl⟩
  have hb1 : Below w.heap.size w w1 := by rw [← hw1]; exact (Below.refl _ _).alloc (Nat.le_refl _) _
  have hs1 : w1.heap.size = w.heap.size + 1 := by rw [← hw1]; simp
  have hx1 : w1.heap[w.heap.size]? = some (.cells #[.int .i64 g.nodes, .slice A1 g.lines.length c1, .slice A2 g.srcs.length c2, .slice A3 g.users.length c3, .slice A F.length cap, .slice Aw want.length wc] 30 (0, 0)) := by rw [← hw1]; exact heap_alloc_new w _
  have p4 := cell_of_row w1 _ 4 _ _ _ hx1
  simp only [List.getElem?_toArray, List.getElem?_cons_succ, List.getElem?_cons_zero] at p4
  have hl1 : w.heap.size < w1.heap.size := by omega
  have hb2 : Below w.heap.size w (w1.alloc (.cells #[] 41)) := hb1.alloc hb1.size _
  have hm : F.length ≤ maxLen := h.1
  have HF : Hid (SlA (w1.alloc (.cells #[] 41)) (w1.alloc (.cells #[] 41)).heap.size 2 A F.length (faultCell F)) := ((h.keep hb2).more hb2.size).2
  have HB2 := Lib.hid hb2
  clear h hb1 hx1 hb2 hs1
  go_enter Try.func19, Try.ntmps19
  go_wp2_with (at_builtin; refine wpList_copy _ 27 41 2 16 copyF rfl _ _ rfl _ rfl A F.length cap (faultCell F) rfl HF.out hm (by omega) ?_; intro A6 c6 w6 hc6 hr6 hb6; have HC6 := Lib.hid hc6; have HR6 := Lib.hid hr6; have HB6 := Lib.hid hb6; clear hc6 hr6 hb6)
  go_ret
  exact ⟨A6, c6, rfl, HC6.out, HR6.out.base HB2.out.size, HB2.out.trans (HB6.out.mono HB2.out.size)⟩
end Go.Proofs.Ytegclodchhcbaaa
