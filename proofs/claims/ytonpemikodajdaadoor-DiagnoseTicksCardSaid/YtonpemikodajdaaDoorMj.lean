/- Walks: the reference's copied of an empty memory; its tick. -/
import Derived.Test.YtonpemikodajdaaDoorMi
namespace Go.Proofs.YtonpemikodajdaaDoor
open Go.RowKit

def Mem0 (w : World) (t : Int) (A Z C : Obj) (W : World) : Prop := W.heap[w.heap.size]? = some A ∧ W.heap[w.heap.size + 1]? = some Z ∧ W.heap[w.heap.size + 1 + 1]? = some C ∧ Below w.heap.size w W ∧ t = t
theorem three_mem (w : World) (t : Int) (A Z C : Obj) : Mem0 w t A Z C ((((w.alloc A).alloc Z).alloc C).drew) := by
  have e1 : (w.alloc A).heap.size = w.heap.size + 1 := by simp
  have e2 : ((w.alloc A).alloc Z).heap.size = w.heap.size + 1 + 1 := by simp
  have h2 := heap_alloc_new (w.alloc A) Z
  have h3 := heap_alloc_new ((w.alloc A).alloc Z) C
  rw [e1] at h2
  rw [e2] at h3
  have k3 : ∀ b, b < w.heap.size + 1 + 1 → (((w.alloc A).alloc Z).alloc C).heap[b]? = ((w.alloc A).alloc Z).heap[b]? := fun b hb => Below.heap_alloc _ C b (by rw [e2]; exact hb)
  have k2 : ∀ b, b < w.heap.size + 1 → ((w.alloc A).alloc Z).heap[b]? = (w.alloc A).heap[b]? := fun b hb => Below.heap_alloc _ Z b (by rw [e1]; exact hb)
  exact ⟨(k3 _ (by omega)).trans ((k2 _ (by omega)).trans (heap_alloc_new w A)), (k3 _ (by omega)).trans h2, h3, ((((Below.refl _ _).alloc (Nat.le_refl _) _).alloc (by simp) _).alloc (by simp; omega) _).drew, rfl⟩
set_option maxRecDepth 100000 in
set_option maxHeartbeats 4000000 in
theorem copied_r0 (v : Value) (t : Int) (s : WSt) (w : World) (hm : MemA w w.heap.size v t s) (h1 : s.ns = []) (h2 : s.cs = []) (h3 : s.ks = []) :
    Calls Tryd.prog 92 #[v] w fun e w' => ∃ v', e = .returned v' ∧ MOwn w' w.heap.size v' t s ∧ Below w.heap.size w w' := by
  obtain ⟨Ac, cc, Ak, ck, Av, cv, rfl, hI1, hI2, hC, hcc, hck, hcv⟩ := hm
  rw [h1, h2, h3]
  simp only [List.length_nil]
  have H1 := Lib.hid h1
  have H2 := Lib.hid h2
  have H3 := Lib.hid h3
  clear hI1 hI2 hC hcc hck hcv h1 h2 h3
  rcases Ac with _ | ad
  all_goals
    rcases Ak with _ | ak
    all_goals
      go_enter Tryd.func92, Tryd.ntmps92
      go_wp2_with fail
      go_region
      go_wp2_with fail
      go_loopw [4] (fun vi wr => vi = .int .i64 0 ∧ Hid (∃ A : Option Addr × Option Addr, Mem0 w t (.cells #[.int .i64 t, .slice A.1 0 cc, .slice A.2 0 ck, .slice Av 0 cv] 27 (0, 0)) (.cells #[.int .i64 0, .slice none 0 0, .slice none 0 0, .slice none 0 0] 27 (0, 0)) (.cells #[.int .i64 t, .slice none 0 0, .slice none 0 0, .slice none 0 0] 27 (0, 0)) wr)) (fun vi _ => 0)
      case atStart => exact ⟨rfl, (_, _), three_mem w t _ _ _⟩
      case round =>
        obtain ⟨rfl, HM⟩ := hrel
        obtain ⟨A, m1, m2, m3, m4, _⟩ := HM.out
        have g3 := row_cell m1 3
        have q0 := row_cell m3 0
        have q1 := row_cell m3 1
        have q2 := row_cell m3 2
        have q3 := row_cell m3 3
        have z0 := row_cell m2 0
        have z1 := row_cell m2 1
        have z2 := row_cell m2 2
        have z3 := row_cell m2 3
        have y0 := row_frozen m2 0
        have y1 := row_frozen m2 1
        have y2 := row_frozen m2 2
        have y3 := row_frozen m2 3
        simp only [List.getElem?_toArray, List.getElem?_cons_succ, List.getElem?_cons_zero] at g3 q0 q1 q2 q3 z0 z1 z2 z3
        have HM2 := Lib.hid m2
        have HM4 := Lib.hid m4
        clear m1 m2 m3 m4
        go_wp2_with fail
        obtain ⟨d, hu⟩ := mem_under
        (try simp only [Exit.inBlock, Exit.then])
        refine bodyPost_ret (results_cell_row rfl _ _ (w.heap.size + 1) 27 _ (0, 0) (.struct d) rfl (put4 HM2.out) hu rfl mem_info) rfl ⟨_, rfl, ?_, below_put4 HM4.out (Nat.le_succ _) _ _ _ _⟩
        exact ⟨.slice none 0 0, .slice none 0 0, .slice none 0 0, [], rfl, by rw [H3.out]; rfl, by rw [H1.out]; exact OutI.nil _ _, by rw [H2.out]; exact OutI.nil _ _, World.ownsRow_nil _ _ _ _, (fun _ h => by cases h), (fun _ h => by cases h), (fun _ h => by cases h), fun p hp => by cases hp⟩
theorem copied_any (v : Value) (t : Int) (s : WSt) (w : World) (hm : MemA w w.heap.size v t s) (hl : s.ns.length = s.cs.length) (hn : s.ns.length ≤ 1000) (hfr : ∀ c ∈ s.ks, 0 < c.frame.length ∧ c.frame.length ≤ 1000) (hkl : s.ks.length ≤ s.ns.length) :
    Calls Tryd.prog 92 #[v] w fun e w' => ∃ v', e = .returned v' ∧ MOwn w' w.heap.size v' t s ∧ Below w.heap.size w w' := by
  rcases Nat.eq_zero_or_pos s.ns.length with h0 | h0
  · exact copied_r0 v t s w hm (List.length_eq_zero_iff.1 h0) (List.length_eq_zero_iff.1 (by omega)) (List.length_eq_zero_iff.1 (by omega))
  · exact copied_r v t s w hm ⟨h0, hn⟩ ⟨by omega, by omega⟩ hfr (by omega)
end Go.Proofs.YtonpemikodajdaaDoor
