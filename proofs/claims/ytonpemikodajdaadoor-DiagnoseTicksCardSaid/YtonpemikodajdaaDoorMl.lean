/- Walks: begin and Begin, ours and the reference's. -/
import Derived.Test.YtonpemikodajdaaDoorMh
import Derived.Test.YtonpemikodajdaaDoorMa
namespace Go.Proofs.YtonpemikodajdaaDoor
open Go.RowKit

theorem out_made {W : World} {B g n : Nat} (h : W.heap[g]? = some (.cells (madeCells #[.int .i64 0] n) 3 (0, 0))) (hB : B ≤ g) (hn : n ≤ 1000000) : OutI W B (.slice (some ⟨g, 0, none⟩) n n) (List.replicate n 0) := by
  unfold OutI
  rw [List.length_replicate]
  refine ⟨by simp, .inr ⟨g, n, _, rfl, hB, h, Nat.le_refl _, by unfold maxLen; omega, by simp [madeCells], ?_⟩⟩
  apply List.ext_getElem?
  intro i
  rw [List.getElem?_take, Nat.mul_one]
  by_cases hi : i < n
  · rw [if_pos hi]
    simp [madeCells, hi, Nat.mod_one]
  · rw [if_neg hi, List.getElem?_eq_none (by simp; omega)]
theorem two_rows (w : World) (X : Obj) (n : Nat) : ∀ W, W = (((w.alloc X).alloc (.cells (madeCells #[.int .i64 0] n) 3)).alloc (.cells (madeCells #[.int .i64 0] n) 3)).drew →
    W.heap[w.heap.size + 1]? = some (.cells (madeCells #[.int .i64 0] n) 3 (0, 0)) ∧ W.heap[w.heap.size + 1 + 1]? = some (.cells (madeCells #[.int .i64 0] n) 3 (0, 0)) := by
  rintro _ rfl
  have e1 : (w.alloc X).heap.size = w.heap.size + 1 := by simp
  have e2 : ((w.alloc X).alloc (.cells (madeCells #[.int .i64 0] n) 3)).heap.size = w.heap.size + 1 + 1 := by simp
  have h1 := heap_alloc_new (w.alloc X) (.cells (madeCells #[.int .i64 0] n) 3)
  have h2 := heap_alloc_new ((w.alloc X).alloc (.cells (madeCells #[.int .i64 0] n) 3)) (.cells (madeCells #[.int .i64 0] n) 3)
  rw [e1] at h1
  rw [e2] at h2
  refine ⟨?_, h2⟩
  show (((w.alloc X).alloc (.cells (madeCells #[.int .i64 0] n) 3)).alloc (.cells (madeCells #[.int .i64 0] n) 3)).heap[w.heap.size + 1]? = _
  exact (Below.heap_alloc _ _ _ (by rw [e2]; omega)).trans h1
def BegP (w : World) (l : List MMon) (e : Ending) (w' : World) : Prop := ∃ VC VK, e = .returned (.agg #[.int .i64 0, VC, VK, .slice none 0 0]) ∧ MOwn w' w.heap.size (.agg #[.int .i64 0, VC, VK, .slice none 0 0]) 0 (begOf l) ∧ Below w.heap.size w w'
theorem beg_own {w W : World} {l : List MMon} {ga gb : Nat} (h1 : W.heap[ga]? = some (.cells (madeCells #[.int .i64 0] l.length) 3 (0, 0))) (h2 : W.heap[gb]? = some (.cells (madeCells #[.int .i64 0] l.length) 3 (0, 0))) (hne : ga ≠ gb) (la : w.heap.size ≤ ga) (lb : w.heap.size ≤ gb) (hn : l.length ≤ 1000000) :
    MOwn W w.heap.size (.agg #[.int .i64 0, .slice (some ⟨ga, 0, none⟩) l.length l.length, .slice (some ⟨gb, 0, none⟩) l.length l.length, .slice none 0 0]) 0 (begOf l) := by
  refine ⟨_, _, _, [], rfl, rfl, out_made h1 la hn, out_made h2 lb hn, World.ownsRow_nil _ _ _ _, fun g hg e => ?_, (fun _ _ e => by cases e), (fun _ _ e => by cases e), fun p hp => by cases hp⟩
  have hg : some ga = some g := hg
  have e : some gb = some g := e
  injection hg with hg
  injection e with e
  exact hne (by rw [hg, e])
set_option maxRecDepth 100000 in
set_option maxHeartbeats 1000000 in
theorem beg52 (A : Option Addr) (cap : Nat) (l : List MMon) (w : World) (hn : l.length ≤ 1000000) :
    Calls Tryd.prog 52 #[.slice A l.length cap] w (BegP w l) := by
  have hmk := run_ints l.length hn
  go_enter Tryd.func52, Tryd.ntmps52
  go_wp2_with fail
  go_region
  · go_wp2_with fail
    have h2 := two_made w (Obj.cells #[Value.int IntKind.i64 0, Value.slice (some { block := w.heap.size + 1, off := 0 }) l.length l.length, Value.slice (some { block := w.heap.size + 1 + 1, off := 0 }) l.length l.length, Value.slice none 0 0] 27) l.length _ rfl
    have h3 := two_rows w (Obj.cells #[Value.int IntKind.i64 0, Value.slice (some { block := w.heap.size + 1, off := 0 }) l.length l.length, Value.slice (some { block := w.heap.size + 1 + 1, off := 0 }) l.length l.length, Value.slice none 0 0] 27) l.length _ rfl
    obtain ⟨d, hu⟩ := mem_under
    (try simp only [Exit.inBlock, Exit.then])
    refine bodyPost_ret (results_cell_row rfl _ _ w.heap.size 27 _ (0, 0) (.struct d) rfl h2.1 hu rfl mem_info) rfl ⟨_, _, rfl, beg_own h3.1 h3.2 (by omega) (by omega) (by omega) hn, h2.2.2.2⟩
  · go_wp2_with fail
    have h2 := two_made w (Obj.cells #[Value.int IntKind.i64 0, Value.slice (some { block := w.heap.size + 1 + 1, off := 0 }) l.length l.length, Value.slice (some { block := w.heap.size + 1, off := 0 }) l.length l.length, Value.slice none 0 0] 27) l.length _ rfl
    have h3 := two_rows w (Obj.cells #[Value.int IntKind.i64 0, Value.slice (some { block := w.heap.size + 1 + 1, off := 0 }) l.length l.length, Value.slice (some { block := w.heap.size + 1, off := 0 }) l.length l.length, Value.slice none 0 0] 27) l.length _ rfl
    obtain ⟨d, hu⟩ := mem_under
    (try simp only [Exit.inBlock, Exit.then])
    refine bodyPost_ret (results_cell_row rfl _ _ w.heap.size 27 _ (0, 0) (.struct d) rfl h2.1 hu rfl mem_info) rfl ⟨_, _, rfl, beg_own h3.2 h3.1 (by omega) (by omega) (by omega) hn, h2.2.2.2⟩
set_option maxRecDepth 100000 in
set_option maxHeartbeats 1000000 in
theorem beg55 (A : Option Addr) (cap : Nat) (l : List MMon) (w : World) (hn : l.length ≤ 1000000) :
    Calls Tryd.prog 55 #[.slice A l.length cap] w (BegP w l) := by
  have hmk := run_ints l.length hn
  go_enter Tryd.func55, Tryd.ntmps55
  go_wp2_with fail
  go_region
  · go_wp2_with fail
    have h2 := two_made w (Obj.cells #[Value.int IntKind.i64 0, Value.slice (some { block := w.heap.size + 1, off := 0 }) l.length l.length, Value.slice (some { block := w.heap.size + 1 + 1, off := 0 }) l.length l.length, Value.slice none 0 0] 27) l.length _ rfl
    have h3 := two_rows w (Obj.cells #[Value.int IntKind.i64 0, Value.slice (some { block := w.heap.size + 1, off := 0 }) l.length l.length, Value.slice (some { block := w.heap.size + 1 + 1, off := 0 }) l.length l.length, Value.slice none 0 0] 27) l.length _ rfl
    obtain ⟨d, hu⟩ := mem_under
    (try simp only [Exit.inBlock, Exit.then])
    refine bodyPost_ret (results_cell_row rfl _ _ w.heap.size 27 _ (0, 0) (.struct d) rfl h2.1 hu rfl mem_info) rfl ⟨_, _, rfl, beg_own h3.1 h3.2 (by omega) (by omega) (by omega) hn, h2.2.2.2⟩
  · go_wp2_with fail
    have h2 := two_made w (Obj.cells #[Value.int IntKind.i64 0, Value.slice (some { block := w.heap.size + 1 + 1, off := 0 }) l.length l.length, Value.slice (some { block := w.heap.size + 1, off := 0 }) l.length l.length, Value.slice none 0 0] 27) l.length _ rfl
    have h3 := two_rows w (Obj.cells #[Value.int IntKind.i64 0, Value.slice (some { block := w.heap.size + 1 + 1, off := 0 }) l.length l.length, Value.slice (some { block := w.heap.size + 1, off := 0 }) l.length l.length, Value.slice none 0 0] 27) l.length _ rfl
    obtain ⟨d, hu⟩ := mem_under
    (try simp only [Exit.inBlock, Exit.then])
    refine bodyPost_ret (results_cell_row rfl _ _ w.heap.size 27 _ (0, 0) (.struct d) rfl h2.1 hu rfl mem_info) rfl ⟨_, _, rfl, beg_own h3.2 h3.1 (by omega) (by omega) (by omega) hn, h2.2.2.2⟩
end Go.Proofs.YtonpemikodajdaaDoor
