/- Walks: the reference's error of a case, from the error of its grid and faults (f62 over f56). -/
import Derived.Test.YtegclodchhcbaaaRg
namespace Go.Proofs.Ytegclodchhcbaaa
open Go.RowKit

theorem prev_low {g : MGrid} {want : List Int} {k : Nat} (hN : ∀ j, j < k → wantB g want j = true) : -1 ≤ prevW want k := by
  have key : ∀ j, j < k → (-1 : Int) < want.getD j 0 := by
    intro j
    induction j with
    | zero =>
      intro hj
      have := hN 0 hj
      unfold wantB prevW at this
      simp only [Bool.and_eq_true, decide_eq_true_eq, if_pos] at this
      exact this.1
    | succ j ih =>
      intro hj
      have := hN (j + 1) hj
      unfold wantB prevW at this
      simp only [Bool.and_eq_true, decide_eq_true_eq, Nat.add_sub_cancel, Nat.succ_ne_zero, if_false] at this
      have := ih (by omega)
      omega
  unfold prevW
  split
  · omega
  · have := key (k - 1) (by omega)
    omega
set_option maxRecDepth 100000 in
set_option maxHeartbeats 8000000 in
theorem rcheckA_of (g : MGrid) (A1 A2 A3 : Option Addr) (c1 c2 c3 : Nat) (A : Option Addr) (cap : Nat) (F : List MFault) (Aw : Option Addr) (wc : Nat) (want : List Int) (w : World) (h : GridA w w.heap.size g A1 A2 A3) (hw : IntsA w w.heap.size Aw want)
    (hC : ∀ W, Below w.heap.size w W → Calls Try.prog 56 #[.agg (gridC g A1 A2 A3 c1 c2 c3), .slice A F.length cap] W fun e w' => e = .returned (.int .i64 (checkGF g F)) ∧ Below W.heap.size W w') {r : Int} (hr : checkA g F want = r) :
    Calls Try.prog 62 #[.agg (gridC g A1 A2 A3 c1 c2 c3), .slice A F.length cap, .slice Aw want.length wc] w fun e w' => e = .returned (.int .i64 r) ∧ Below w.heap.size w w' := by
  have hl3 := h.us.1
  have hlw := hw.1
  unfold maxLen at hl3 hlw
  obtain ⟨w1, hw1⟩ : ∃ w1, w.alloc (.cells #[.int .i64 g.nodes, .slice A1 g.lines.length c1, .slice A2 g.srcs.length c2, .slice A3 g.users.length c3] 26) = w1 := ⟨_, rfl⟩
  have hb1 : Below w.heap.size w w1 := by rw [← hw1]; exact (Below.refl _ _).alloc (Nat.le_refl _) _
  have hs1 : w1.heap.size = w.heap.size + 1 := by rw [← hw1]; simp
  have hx1 : w1.heap[w.heap.size]? = some (.cells #[.int .i64 g.nodes, .slice A1 g.lines.length c1, .slice A2 g.srcs.length c2, .slice A3 g.users.length c3] 26 (0, 0)) := by rw [← hw1]; exact heap_alloc_new w _
  have HX : Hid (∀ W, Below w1.heap.size w1 W → Below w.heap.size w W ∧ W.cell? ⟨w.heap.size, 0, none⟩ = some (.int .i64 g.nodes) ∧ W.cell? ⟨w.heap.size, 1, none⟩ = some (.slice A1 g.lines.length c1) ∧ W.cell? ⟨w.heap.size, 2, none⟩ = some (.slice A2 g.srcs.length c2) ∧ W.cell? ⟨w.heap.size, 3, none⟩ = some (.slice A3 g.users.length c3)) := fun W hW => by
    have h1 := (hW.block w.heap.size (by omega)).trans hx1
    exact ⟨hb1.trans (hW.mono (by omega)), cell_of_row W _ 0 _ _ _ h1, cell_of_row W _ 1 _ _ _ h1, cell_of_row W _ 2 _ _ _ h1, cell_of_row W _ 3 _ _ _ h1⟩
  have HG : Hid (∀ W, Below w.heap.size w W → IntsA W W.heap.size Aw want) := fun W hW => (hw.below hW (Nat.le_refl _)).more hW.size
  obtain ⟨_, p0, p1, p2, p3⟩ := HX.out w1 (Below.refl _ _)
  have HR := Lib.hid hr
  obtain ⟨G, hG⟩ : ∃ G, checkGF g F = G := ⟨_, rfl⟩
  rw [hG] at hC
  have HCK := Lib.hid hC
  unfold gridC at HCK ⊢
  clear h hw hr hb1 hx1 hC
  by_cases hz : G = 0
  · subst hz
    have HRF : Hid (checkW g want = r) := by
      show _ = _
      rw [← HR.out]
      unfold checkA
      rw [if_pos hG]
    clear hG
    go_enter Try.func62, Try.ntmps62
    go_wp2_with (go_at_call 56; refine (HCK.out _ (HX.out _ (Below.refl _ _)).1).mono ?_; rintro e w2 ⟨rfl, hb2⟩; have HB2 := Lib.hid hb2; clear hb2 p0 p1 p2 p3)
    go_loopw [8] (fun vi wr => ∃ k : Nat, k ≤ want.length ∧ vi = .int .i64 k ∧ Hid (Below w1.heap.size w1 wr) ∧ Hid (∀ j, j < k → wantB g want j = true)) (fun vi _ => want.length - (intOf vi).toNat)
    case atStart => exact ⟨0, Nat.zero_le _, rfl, HB2, fun j hj => absurd hj (Nat.not_lt_zero _)⟩
    case round =>
      clear HB2
      obtain ⟨k, hk, rfl, HB, HN⟩ := hrel
      rename World => wr
      have hws := HB.out.size
      have HBW := Lib.hid (HX.out wr HB.out).1
      by_cases hlt : k < want.length
      · obtain ⟨b, off, hA, hb, c0⟩ := (HG.out wr HBW.out).at_ hlt
        subst hA
        have HLT := Lib.hid hlt
        obtain ⟨_, s0, s1, s2, s3⟩ := HX.out _ HB.out
        have hB : wantB g want k = (decide (prevW want k < want.getD k 0) && decide (want.getD k 0 < g.users.length)) := rfl
        have hlow := prev_low HN.out
        by_cases q1 : want.getD k 0 < 0
        · have HLB : Hid (wantB g want k = false) := by show _ = _; rw [hB, decide_eq_false (show ¬ prevW want k < want.getD k 0 by omega)]; rfl
          clear hB hlow
          generalize want.getD k 0 = x at *
          have g1 : decide (x < 0) = true := decide_eq_true q1
          go_upto_region 7 with fail
          go_quiet (fail)
          have HBZ := Lib.hid (bdrw HB.out nq)
          generalize wr.drewN nq = w5 at *
          clear s0 s1 s2 s3
          go_wp2_with fail
          go_ret
          exact ⟨ret_i (by rw [← HRF.out, checkW_1 HLT.out HLB.out]), (HX.out _ HBZ.out).1⟩
        have g1 : decide (want.getD k 0 < 0) = false := decide_eq_false q1
        by_cases q2 : (g.users.length : Int) ≤ want.getD k 0
        · have HLB : Hid (wantB g want k = false) := by show _ = _; rw [hB, decide_eq_false (show ¬ want.getD k 0 < g.users.length by omega), Bool.and_false]
          clear hB hlow
          generalize want.getD k 0 = x at *
          have g2 : decide ((g.users.length : Int) ≤ x) = true := decide_eq_true q2
          go_upto_region 7 with fail
          go_quiet (fail)
          have HBZ := Lib.hid (bdrw HB.out nq)
          generalize wr.drewN nq = w5 at *
          clear s0 s1 s2 s3
          go_wp2_with fail
          go_ret
          exact ⟨ret_i (by rw [← HRF.out, checkW_1 HLT.out HLB.out]), (HX.out _ HBZ.out).1⟩
        have g2 : decide ((g.users.length : Int) ≤ want.getD k 0) = false := decide_eq_false q2
        rcases Nat.eq_zero_or_pos k with rfl | hk0
        · have HLB : Hid (wantB g want 0 = true) := by
            show _ = _
            rw [hB, decide_eq_true (show prevW want 0 < want.getD 0 0 by unfold prevW; rw [if_pos rfl]; omega), decide_eq_true (show want.getD 0 0 < g.users.length by omega)]; rfl
          clear hB hlow
          have c1 := c0
          rw [Nat.add_zero] at c1
          generalize want.getD 0 0 = x at *
          go_upto_region 7 with fail
          go_quiet (fail)
          have HBZ := Lib.hid (bdrw HB.out nq)
          generalize wr.drewN nq = w5 at *
          clear s0 s1 s2 s3
          go_wp2_with fail
          go_roundw
          case rel => exact ⟨1, by have := HLT.out; omega, by go_num, HBZ, upto_next HN.out HLB.out⟩
          case measure => simp [intOf]; have := HLT.out; omega
        · obtain ⟨m, rfl⟩ : ∃ m, k = m + 1 := ⟨k - 1, by omega⟩
          obtain ⟨b', off', hA', hb', c1'⟩ := (HG.out wr HBW.out).at_ (show m < want.length by omega)
          cases hA'
          have hpv : prevW want (m + 1) = want.getD m 0 := by unfold prevW; rw [if_neg (Nat.succ_ne_zero m), Nat.add_sub_cancel]
          rw [hpv] at hB hlow
          have g0 : decide ((0 : Int) < ((m + 1 : Nat) : Int)) = true := decide_eq_true (by omega)
          by_cases q3 : want.getD (m + 1) 0 ≤ want.getD m 0
          · have HLB : Hid (wantB g want (m + 1) = false) := by show _ = _; rw [hB, decide_eq_false (show ¬ want.getD m 0 < want.getD (m + 1) 0 by omega)]; rfl
            clear hB hlow hpv
            generalize want.getD (m + 1) 0 = x at *
            generalize want.getD m 0 = y at *
            have g3 : decide (x ≤ y) = true := decide_eq_true q3
            go_upto_region 7 with fail
            go_quiet (fail)
            have HBZ := Lib.hid (bdrw HB.out nq)
            generalize wr.drewN nq = w5 at *
            clear s0 s1 s2 s3
            go_wp2_with fail
            go_ret
            exact ⟨ret_i (by rw [← HRF.out, checkW_1 HLT.out HLB.out]), (HX.out _ HBZ.out).1⟩
          · have HLB : Hid (wantB g want (m + 1) = true) := by show _ = _; rw [hB, decide_eq_true (show want.getD m 0 < want.getD (m + 1) 0 by omega), decide_eq_true (show want.getD (m + 1) 0 < g.users.length by omega)]; rfl
            clear hB hlow hpv
            generalize want.getD (m + 1) 0 = x at *
            generalize want.getD m 0 = y at *
            have g3 : decide (x ≤ y) = false := decide_eq_false q3
            go_upto_region 7 with fail
            go_quiet (fail)
            have HBZ := Lib.hid (bdrw HB.out nq)
            generalize wr.drewN nq = w5 at *
            clear s0 s1 s2 s3
            go_wp2_with fail
            go_roundw
            case rel => exact ⟨m + 1 + 1, by have := HLT.out; omega, by go_num, HBZ, upto_next HN.out HLB.out⟩
            case measure => simp [intOf]; have := HLT.out; omega
      · obtain rfl : want.length = k := by omega
        have hfin := checkW_0 HN.out
        go_wp2_with fail
        go_ret
        exact ⟨ret_i (by rw [← HRF.out, hfin]), HBW.out⟩
  · have hz' : (G != 0) = true := by simpa using hz
    have hre : G = r := by
      rw [← HR.out]
      unfold checkA
      rw [hG, if_neg hz]
    have HRE := Lib.hid hre
    clear hG hre hz
    go_enter Try.func62, Try.ntmps62
    go_wp2_with (go_at_call 56; refine (HCK.out _ (HX.out _ (Below.refl _ _)).1).mono ?_; rintro e w2 ⟨rfl, hb2⟩; have HB2 := Lib.hid hb2; clear hb2)
    go_ret
    exact ⟨ret_i HRE.out, (HX.out _ HB2.out).1⟩
theorem rcheckA_any (g : MGrid) (A1 A2 A3 : Option Addr) (c1 c2 c3 : Nat) (A : Option Addr) (cap : Nat) (F : List MFault) (Aw : Option Addr) (wc : Nat) (want : List Int) (w : World) (h : GridA w w.heap.size g A1 A2 A3) (hf : FaultsA w w.heap.size A F) (hw : IntsA w w.heap.size Aw want) {r : Int} (hr : checkA g F want = r) :
    Calls Try.prog 62 #[.agg (gridC g A1 A2 A3 c1 c2 c3), .slice A F.length cap, .slice Aw want.length wc] w fun e w' => e = .returned (.int .i64 r) ∧ Below w.heap.size w w' :=
  rcheckA_of g A1 A2 A3 c1 c2 c3 A cap F Aw wc want w h hw (fun W hW => rcheckGF_any g A1 A2 A3 c1 c2 c3 A cap F W ((h.keep hW).more hW.size) ((hf.keep hW).more hW.size) rfl) hr
end Go.Proofs.Ytegclodchhcbaaa
