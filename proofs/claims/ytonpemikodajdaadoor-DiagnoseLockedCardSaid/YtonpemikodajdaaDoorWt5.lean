/- Walks: begin. -/
import Derived.Test.YtonpemikodajdaaDoorWt4
import Derived.Deep.RegionHeld3
namespace Go.Proofs.YtonpemikodajdaaDoor
open Go.RowKit

theorem run_ints (n : Nat) (hn : n ≤ 1000000) (w : World) : (Instr.makeSlice 24 (.int .i64 (n : Int)) (.int .i64 (n : Int))).run Tryd.prog w = .ok (.slice (some ⟨w.heap.size, 0, none⟩) n n) (w.alloc (.cells (madeCells #[.int .i64 0] n) 3)) := by
  obtain ⟨i0, hi, hz0, hz1, hz2⟩ := info_parts info_int
  have h := run_make (P := Tryd.prog) (w := w) 24 3 i0 (.int .i64 0) under_ints hi hz0 .i64 .i64 (n : Int) (n : Int) (by omega) (by omega) (by rw [hz2]; omega) (by omega)
  rw [h, hz1]
  simp [Value.cells]
theorem own_made (w : World) (n : Nat) : OwnF (w.alloc (.cells (madeCells #[.int .i64 0] n) 3)) w.heap.size 3 n (fun _ => .int .i64 0) := by
  refine ⟨_, heap_alloc_new w _, by simp [madeCells], fun j hj => ?_⟩
  simp [madeCells, hj, Nat.mod_one]
structure BeginP (w w' : World) (n ga gb : Nat) : Prop where
  ne : ga ≠ gb
  la : w.heap.size ≤ ga
  lb : w.heap.size ≤ gb
  a : OwnF w' ga 3 n (fun _ => .int .i64 0)
  b : OwnF w' gb 3 n (fun _ => .int .i64 0)
  bel : Below w.heap.size w w'
theorem mem_under : ∃ f, Tryd.prog.underlying 27 = some (.struct f) := by
  have h : (Tryd.prog.underlying 27).map (fun d => match d with | .struct _ => true | _ => false) = some true := by kernel_rfl
  rcases hu : Tryd.prog.underlying 27 with _ | d
  · rw [hu] at h; cases h
  · rw [hu] at h
    cases d
    case struct f => exact ⟨f, rfl⟩
    all_goals (exfalso; simp at h)
theorem mem_info : (Tryd.prog.info? 27).map (·.size) = some 4 := by kernel_rfl
theorem two_made (w : World) (X : Obj) (n : Nat) : ∀ W, W = (((w.alloc X).alloc (.cells (madeCells #[.int .i64 0] n) 3)).alloc (.cells (madeCells #[.int .i64 0] n) 3)).drew →
    W.heap[w.heap.size]? = some X ∧ OwnF W (w.heap.size + 1) 3 n (fun _ => .int .i64 0) ∧ OwnF W (w.heap.size + 1 + 1) 3 n (fun _ => .int .i64 0) ∧ Below w.heap.size w W := by
  rintro _ rfl
  have e1 : (w.alloc X).heap.size = w.heap.size + 1 := by simp
  have e2 : ((w.alloc X).alloc (.cells (madeCells #[.int .i64 0] n) 3)).heap.size = w.heap.size + 1 + 1 := by simp
  have h1 := own_made (w.alloc X) n
  have h2 := own_made ((w.alloc X).alloc (.cells (madeCells #[.int .i64 0] n) 3)) n
  rw [e1] at h1
  rw [e2] at h2
  refine ⟨?_, (h1.alloc _).drewN 1, h2.drewN 1, ((((Below.refl _ _).alloc (Nat.le_refl _) _).alloc (by simp) _).alloc (by simp; omega) _).drew⟩
  show (((w.alloc X).alloc (.cells (madeCells #[.int .i64 0] n) 3)).alloc (.cells (madeCells #[.int .i64 0] n) 3)).heap[w.heap.size]? = _
  exact (Below.heap_alloc _ _ _ (by rw [e2]; omega)).trans ((Below.heap_alloc _ _ _ (by rw [e1]; omega)).trans (heap_alloc_new _ _))
set_option maxRecDepth 100000 in
set_option maxHeartbeats 1000000 in
theorem begin_any (A : Option Addr) (cap n : Nat) (w : World) (hn : n ≤ 1000000) :
    Calls Tryd.prog 52 #[.slice A n cap] w fun e w' => ∃ ga gb, e = .returned (.agg #[.int .i64 0, .slice (some ⟨ga, 0, none⟩) n n, .slice (some ⟨gb, 0, none⟩) n n, .slice none 0 0]) ∧ BeginP w w' n ga gb := by
  have hmk := run_ints n hn
  go_enter Tryd.func52, Tryd.ntmps52
  go_wp2_with fail
  go_region
  · go_wp2_with fail
    have h2 := two_made w (Obj.cells #[Value.int IntKind.i64 0, Value.slice (some { block := w.heap.size + 1, off := 0 }) n n, Value.slice (some { block := w.heap.size + 1 + 1, off := 0 }) n n, Value.slice none 0 0] 27) n _ rfl
    obtain ⟨d, hu⟩ := mem_under
    (try simp only [Exit.inBlock, Exit.then])
    refine bodyPost_ret (results_cell_row rfl _ _ w.heap.size 27 _ (0, 0) (.struct d) rfl h2.1 hu rfl mem_info) rfl ⟨w.heap.size + 1, w.heap.size + 1 + 1, rfl, ⟨by omega, by omega, by omega, h2.2.1, h2.2.2.1, h2.2.2.2⟩⟩
  · go_wp2_with fail
    have h2 := two_made w (Obj.cells #[Value.int IntKind.i64 0, Value.slice (some { block := w.heap.size + 1 + 1, off := 0 }) n n, Value.slice (some { block := w.heap.size + 1, off := 0 }) n n, Value.slice none 0 0] 27) n _ rfl
    obtain ⟨d, hu⟩ := mem_under
    (try simp only [Exit.inBlock, Exit.then])
    refine bodyPost_ret (results_cell_row rfl _ _ w.heap.size 27 _ (0, 0) (.struct d) rfl h2.1 hu rfl mem_info) rfl ⟨w.heap.size + 1 + 1, w.heap.size + 1, rfl, ⟨by omega, by omega, by omega, h2.2.2.1, h2.2.1, h2.2.2.2⟩⟩
end Go.Proofs.YtonpemikodajdaaDoor
