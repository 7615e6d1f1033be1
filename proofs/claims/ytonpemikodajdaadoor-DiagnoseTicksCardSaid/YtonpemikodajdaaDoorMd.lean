/- Walk: sameMemory, at two memories that are equal. -/
import Derived.Test.YtonpemikodajdaaDoorMb
namespace Go.Proofs.YtonpemikodajdaaDoor
open Go.RowKit

theorem two_codes (wr : World) (X Y : Array Value) : ∀ W, W = ((wr.alloc (.cells X 46)).alloc (.cells Y 46)).drew →
    W.heap[wr.heap.size]? = some (.cells X 46 (0, 0)) ∧ W.heap[wr.heap.size + 1]? = some (.cells Y 46 (0, 0)) ∧ Below wr.heap.size wr W ∧ W.heap.size = wr.heap.size + 2 := by
  rintro _ rfl
  have e1 : (wr.alloc (.cells X 46)).heap.size = wr.heap.size + 1 := by simp
  have h2 := heap_alloc_new (wr.alloc (.cells X 46)) (.cells Y 46)
  rw [e1] at h2
  refine ⟨?_, h2, (((Below.refl _ _).alloc (Nat.le_refl _) _).alloc (by simp) _).drew, by show ((wr.alloc (.cells X 46)).alloc (.cells Y 46)).heap.size = _; simp⟩
  show ((wr.alloc (.cells X 46)).alloc (.cells Y 46)).heap[wr.heap.size]? = _
  exact (Below.heap_alloc _ _ _ (by rw [e1]; omega)).trans (heap_alloc_new _ _)
set_option maxRecDepth 100000 in
set_option maxHeartbeats 4000000 in
theorem same_mem (va vb : Value) (t : Int) (s : WSt) (w : World) (ha : MemA w w.heap.size va t s) (hb : MemA w w.heap.size vb t s) :
    Calls Tryd.prog 17 #[va, vb] w fun e w' => e = .returned (.bool true) ∧ Below w.heap.size w w' := by
  obtain ⟨Ac, cc, Ak, ck, Av, cv, rfl, hI1, hI2, hC, _⟩ := ha
  obtain ⟨Bc, dc, Bk, dk, Bv, dv, rfl, hJ1, hJ2, hD, _⟩ := hb
  have hn3 := hC.1
  obtain ⟨w1, hw1⟩ : ∃ w1, w1 = (w.alloc (.cells #[.int .i64 t, .slice Ac s.ns.length cc, .slice Ak s.cs.length ck, .slice Av s.ks.length cv] 27)).alloc (.cells #[.int .i64 t, .slice Bc s.ns.length dc, .slice Bk s.cs.length dk, .slice Bv s.ks.length dv] 27) := ⟨_, rfl⟩
  have hb1 : Below w.heap.size w w1 := by rw [hw1]; exact ((Below.refl _ _).alloc (Nat.le_refl _) _).alloc (by simp) _
  have hs1 : w1.heap.size = w.heap.size + 2 := by rw [hw1]; simp
  have hh1 : w1.heap[w.heap.size]? = some (.cells #[.int .i64 t, .slice Ac s.ns.length cc, .slice Ak s.cs.length ck, .slice Av s.ks.length cv] 27 (0, 0)) := by
    rw [hw1]; exact (Below.heap_alloc _ _ _ (by simp)).trans (heap_alloc_new w _)
  have hh2 : w1.heap[w.heap.size + 1]? = some (.cells #[.int .i64 t, .slice Bc s.ns.length dc, .slice Bk s.cs.length dk, .slice Bv s.ks.length dv] 27 (0, 0)) := by
    have := heap_alloc_new (w.alloc (.cells #[.int .i64 t, .slice Ac s.ns.length cc, .slice Ak s.cs.length ck, .slice Av s.ks.length cv] 27)) (.cells #[.int .i64 t, .slice Bc s.ns.length dc, .slice Bk s.cs.length dk, .slice Bv s.ks.length dv] 27)
    rw [hw1]
    simpa using this
  have g0 := row_cell hh1 0
  have g1 := row_cell hh1 1
  have g2 := row_cell hh1 2
  have g3 := row_cell hh1 3
  have p0 := row_cell hh2 0
  have p1 := row_cell hh2 1
  have p2 := row_cell hh2 2
  have p3 := row_cell hh2 3
  simp only [List.getElem?_toArray, List.getElem?_cons_succ, List.getElem?_cons_zero] at g0 g1 g2 g3 p0 p1 p2 p3
  have htt : (t != t) = false := by simp
  have H1 : Hid (∀ wx, Below w1.heap.size w1 wx → Calls Tryd.prog 24 #[.slice Ac s.ns.length cc, .slice Bc s.ns.length dc] wx fun e w' => e = .returned (.bool true) ∧ Below wx.heap.size wx w') := fun wx hx =>
    same_ints _ _ _ _ s.ns s.ns wx ((hI1.keep (hb1.trans (hx.mono (by omega)))).more (hb1.trans (hx.mono (by omega))).size) ((hJ1.keep (hb1.trans (hx.mono (by omega)))).more (hb1.trans (hx.mono (by omega))).size) (by simp)
  have H2 : Hid (∀ wx, Below w1.heap.size w1 wx → Calls Tryd.prog 24 #[.slice Ak s.cs.length ck, .slice Bk s.cs.length dk] wx fun e w' => e = .returned (.bool true) ∧ Below wx.heap.size wx w') := fun wx hx =>
    same_ints _ _ _ _ s.cs s.cs wx ((hI2.keep (hb1.trans (hx.mono (by omega)))).more (hb1.trans (hx.mono (by omega))).size) ((hJ2.keep (hb1.trans (hx.mono (by omega)))).more (hb1.trans (hx.mono (by omega))).size) (by simp)
  have hwf := hw1.symm
  have HC := Lib.hid hC
  have HD := Lib.hid hD
  clear hC hD hI1 hI2 hJ1 hJ2 hw1
  go_enter Tryd.func17, Tryd.ntmps17
  go_wp2_with (first
    | (go_at_call 24; with_reducible refine (H1.out _ (Below.refl _ _)).mono ?_; rintro e w2 ⟨rfl, hb2⟩; have q2 := (bcell hb2 w.heap.size 2 (by omega)).trans g2; have q3 := (bcell hb2 (w.heap.size + 1) 2 (by omega)).trans p2)
    | (go_at_call 24; with_reducible refine (H2.out _ hb2).mono ?_; rintro e w3 ⟨rfl, hb3⟩; have hB3 := hb2.trans (hb3.mono hb2.size); have q4 := (bcell hB3 w.heap.size 3 (by omega)).trans g3; have q5 := (bcell hB3 (w.heap.size + 1) 3 (by omega)).trans p3))
  go_loopw [5] (fun vi wr => ∃ k : Nat, k ≤ s.ks.length ∧ vi = .int .i64 k ∧ Below w1.heap.size w1 wr) (fun vi _ => s.ks.length - (intOf vi).toNat)
  case atStart => exact ⟨0, Nat.zero_le _, rfl, hB3⟩
  case round =>
    clear hb2 hb3 hB3 q2 q3 q4 q5
    obtain ⟨k, hk, rfl, hbw⟩ := hrel
    have q3 := (bcell hbw w.heap.size 3 (by omega)).trans g3
    have r3 := (bcell hbw (w.heap.size + 1) 3 (by omega)).trans p3
    have hBW : Below w.heap.size w wr := hb1.trans (hbw.mono (by omega))
    by_cases hlt : k < s.ks.length
    · obtain ⟨f, b, o, Ap, cp, hg, hAe, hbl, c0, c1, c2, c3, c4, c5, _, hfr⟩ := (HC.out.keep hBW).at_ hlt
      obtain ⟨f', b', o', Bp, dp, hg', hAe', hbl', d0, d1, d2, d3, d4, d5, _, hfr'⟩ := (HD.out.keep hBW).at_ hlt
      have hff := hg.symm.trans hg'
      subst hff
      subst hAe
      subst hAe'
      have HFR := Lib.hid hfr
      have HFR' := Lib.hid hfr'
      clear hg hg' hfr hfr'
      have x1 : w.heap.size < wr.heap.size := by have := hbw.size; omega
      have x2 : w.heap.size + 1 < wr.heap.size := by have := hbw.size; omega
      have x3 : b < wr.heap.size := by have := hBW.size; omega
      have x4 : b' < wr.heap.size := by have := hBW.size; omega
      go_wp2_with fail
      go_region
      · obtain ⟨W, hW⟩ : ∃ W, W = ((wr.alloc (.cells #[.int .i64 f.mon, .int .i64 f.first, .int .i64 f.last, .int .i64 f.count, .slice Ap f.frame.length cp, .bool f.active] 46)).alloc (.cells #[.int .i64 f.mon, .int .i64 f.first, .int .i64 f.last, .int .i64 f.count, .slice Bp f.frame.length dp, .bool f.active] 46)).drew := ⟨_, rfl⟩
        rw [← hW]
        obtain ⟨u1, u2, hBw, hsw⟩ := two_codes wr _ _ W hW
        have a0 := row_cell u1 0
        have a1 := row_cell u1 1
        have a2 := row_cell u1 2
        have a3 := row_cell u1 3
        have a4 := row_cell u1 4
        have a5 := row_cell u1 5
        have b0 := row_cell u2 0
        have b1 := row_cell u2 1
        have b2 := row_cell u2 2
        have b3 := row_cell u2 3
        have b4 := row_cell u2 4
        have b5 := row_cell u2 5
        simp only [List.getElem?_toArray, List.getElem?_cons_succ, List.getElem?_cons_zero] at a0 a1 a2 a3 a4 a5 b0 b1 b2 b3 b4 b5
        have hBW2 := hBW.trans (hBw.mono hBW.size)
        have hBX2 := hbw.trans (hBw.mono hbw.size)
        have HS := Lib.hid (same_ints Ap Bp cp dp f.frame f.frame W ((HFR.out.keep (hBw.mono hBW.size)).more hBW2.size) ((HFR'.out.keep (hBw.mono hBW.size)).more hBW2.size) (r := true) (by simp))
        clear u1 u2 hW c0 c1 c2 c3 c4 c5 d0 d1 d2 d3 d4 d5
        go_wp2_with (go_at_call 24; refine HS.out.mono ?_; rintro e w5 ⟨rfl, hb5⟩)
        go_roundw
        case rel => exact ⟨k + 1, by omega, by go_num, hBX2.trans (hb5.mono hBX2.size)⟩
        case measure => simp [intOf]; omega
      · obtain ⟨W, hW⟩ : ∃ W, W = ((wr.alloc (.cells #[.int .i64 f.mon, .int .i64 f.first, .int .i64 f.last, .int .i64 f.count, .slice Bp f.frame.length dp, .bool f.active] 46)).alloc (.cells #[.int .i64 f.mon, .int .i64 f.first, .int .i64 f.last, .int .i64 f.count, .slice Ap f.frame.length cp, .bool f.active] 46)).drew := ⟨_, rfl⟩
        rw [← hW]
        obtain ⟨u1, u2, hBw, hsw⟩ := two_codes wr _ _ W hW
        have a0 := row_cell u1 0
        have a1 := row_cell u1 1
        have a2 := row_cell u1 2
        have a3 := row_cell u1 3
        have a4 := row_cell u1 4
        have a5 := row_cell u1 5
        have b0 := row_cell u2 0
        have b1 := row_cell u2 1
        have b2 := row_cell u2 2
        have b3 := row_cell u2 3
        have b4 := row_cell u2 4
        have b5 := row_cell u2 5
        simp only [List.getElem?_toArray, List.getElem?_cons_succ, List.getElem?_cons_zero] at a0 a1 a2 a3 a4 a5 b0 b1 b2 b3 b4 b5
        have hBW2 := hBW.trans (hBw.mono hBW.size)
        have hBX2 := hbw.trans (hBw.mono hbw.size)
        have HS := Lib.hid (same_ints Ap Bp cp dp f.frame f.frame W ((HFR.out.keep (hBw.mono hBW.size)).more hBW2.size) ((HFR'.out.keep (hBw.mono hBW.size)).more hBW2.size) (r := true) (by simp))
        clear u1 u2 hW c0 c1 c2 c3 c4 c5 d0 d1 d2 d3 d4 d5
        go_wp2_with (go_at_call 24; refine HS.out.mono ?_; rintro e w5 ⟨rfl, hb5⟩)
        go_roundw
        case rel => exact ⟨k + 1, by omega, by go_num, hBX2.trans (hb5.mono hBX2.size)⟩
        case measure => simp [intOf]; omega
    · obtain rfl : k = s.ks.length := by omega
      go_wp2_with fail
      go_ret
      exact ⟨rfl, hBW⟩
end Go.Proofs.YtonpemikodajdaaDoor
