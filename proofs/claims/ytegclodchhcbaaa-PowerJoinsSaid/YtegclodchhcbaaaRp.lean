/- Walks: carries, Carries, Cut: the reference's. Printed by gen_rp8.py. -/
import Derived.Test.YtegclodchhcbaaaRo
import Derived.Test.YtegclodchhcbaaaFc
namespace Go.Proofs.Ytegclodchhcbaaa
open Go.RowKit

set_option maxRecDepth 100000 in
set_option maxHeartbeats 8000000 in
theorem rcarries_any (g : MGrid) (A1 A2 A3 : Option Addr) (c1 c2 c3 : Nat) (A : Option Addr) (cap : Nat) (F : List MFault) (Aw : Option Addr) (wc : Nat) (want : List Int) (w : World) (h : GridA w w.heap.size g A1 A2 A3) (hf : FaultsA w w.heap.size A F) (hw : IntsA w w.heap.size Aw want) {n : Nat} (hg : GridOk g n) (hwo : WantOk g want) (hwl : want.length ≤ 100) :
    Calls Try.prog 66 #[.agg (gridC g A1 A2 A3 c1 c2 c3), .slice A F.length cap, .slice Aw want.length wc] w (CarP g F want n w) := by
  have hl3 := h.us.1
  have hlw := hw.1
  unfold maxLen at hl3 hlw
  obtain ⟨w1, hw1⟩ : ∃ w1, w.alloc (.cells #[.int .i64 g.nodes, .slice A1 g.lines.length c1, .slice A2 g.srcs.length c2, .slice A3 g.users.length c3] 26) = w1 := ⟨_, rfl⟩
  have hb1 : Below w.heap.size w w1 := by rw [← hw1]; exact (Below.refl _ _).alloc (Nat.le_refl _) _
  have hs1 : w1.heap.size = w.heap.size + 1 := by rw [← hw1]; simp
  have hx1 : w1.heap[w.heap.size]? = some (.cells #[.int .i64 g.nodes, .slice A1 g.lines.length c1, .slice A2 g.srcs.length c2, .slice A3 g.users.length c3] 26 (0, 0)) := by rw [← hw1]; exact heap_alloc_new w _
  have HX : Hid (∀ W, Below w1.heap.size w1 W → Below w.heap.size w W ∧ W.cell? ⟨w.heap.size, 0, none⟩ = some (.int .i64 g.nodes) ∧ W.cell? ⟨w.heap.size, 1, none⟩ = some (.slice A1 g.lines.length c1) ∧ W.cell? ⟨w.heap.size, 2, none⟩ = some (.slice A2 g.srcs.length c2) ∧ W.cell? ⟨w.heap.size, 3, none⟩ = some (.slice A3 g.users.length c3)) := fun W hW => by
    have h1 := (hW.block w.heap.size (by omega)).trans hx1
    exact ⟨hb1.trans (hW.mono (by omega)), cell_of_row W _ 0 _ _ _ h1, cell_of_row W _ 1 _ _ _ h1, cell_of_row W _ 2 _ _ _ h1, cell_of_row W _ 3 _ _ _ h1⟩
  have HG : Hid (∀ W, Below w.heap.size w W → GridA W W.heap.size g A1 A2 A3 ∧ FaultsA W W.heap.size A F ∧ IntsA W W.heap.size Aw want) := fun W hW => ⟨(h.keep hW).more hW.size, (hf.keep hW).more hW.size, (hw.below hW (Nat.le_refl _)).more hW.size⟩
  obtain ⟨_, p0, p1, p2, p3⟩ := HX.out w1 (Below.refl _ _)
  have HRM := Lib.hid (fun W hW => room_any g n A1 A2 A3 c1 c2 c3 A cap F Aw wc want W (HG.out W hW).1 (HG.out W hW).2.1 (HG.out W hW).2.2 hg hwo hwl)
  have HFI : Hid (∀ B tb rb W, RTabA W B tb (n + 2) rb (refT g F want n (n + 1)) → B ≤ W.heap.size → _) := fun B tb rb W hr hB => filled_any g n F want B tb rb W hr hB hg hwo hwl
  have HND : Hid (∀ k, k ≤ want.length → 0 ≤ needS g want k ∧ needS g want k ≤ k * 1000000) := needS_bd hg hwo
  have HGO := Lib.hid hg
  have HWO := Lib.hid hwo
  have HB0 : Hid (Below w1.heap.size w1 w1) := Below.refl _ _
  unfold gridC at HRM ⊢
  clear h hf hw hb1 hx1 hg hwo p0 p1 p2 p3
  go_enter Try.func66, Try.ntmps66
  go_wp2_with fail
  go_loopw [8, 7] (fun vi vs wr => ∃ k : Nat, k ≤ want.length ∧ vi = .int .i64 k ∧ vs = .int .i64 (needS g want k) ∧ Hid (Below w1.heap.size w1 wr)) (fun vi _ _ => want.length - (intOf vi).toNat)
  case atStart => exact ⟨0, Nat.zero_le _, rfl, rfl, HB0⟩
  case round =>
    clear HB0
    obtain ⟨k, hk, rfl, rfl, HB⟩ := hrel
    rename World => wr
    obtain ⟨hbw, p0, p1, p2, p3⟩ := HX.out wr HB.out
    by_cases hlt : k < want.length
    · obtain ⟨b, off, hA0, hb0, ax⟩ := (HG.out wr hbw).2.2.at_ hlt
      subst hA0
      have hxo := HWO.out _ (getD_mem_of hlt 0)
      obtain ⟨x, hx⟩ : ∃ x : Nat, want.getD k 0 = (x : Int) := ⟨(want.getD k 0).toNat, by omega⟩
      have hxl : x < g.users.length := by omega
      obtain ⟨f, lb, lo, hfe, hA, hlb, f0, f1, f2⟩ := (HG.out wr hbw).1.us.at_ hxl
      subst hA
      have hfm : f ∈ g.users := by rw [← hfe]; exact getD_mem_of hxl dUser
      obtain ⟨hfa, hf1, hf2⟩ := HGO.out.user f hfm
      rw [hx] at ax
      have hnd : needS g want (k + 1) = needS g want k + f.power := by show sumN _ k + (g.users.getD (want.getD k 0).toNat dUser).power = _; rw [hx, Int.toNat_natCast, hfe]; rfl
      have hnb := HND.out k hk
      have HNS := Lib.hid hnd
      have HLT := Lib.hid hlt
      clear hfe hfm hfa hnd hx hxo
      generalize needS g want k = nd at *
      have e1 : IntKind.i64.wrap (nd + f.power) = nd + f.power := IntWalk.i64_in _ (by omega)
      go_upto_region 5 with fail
      go_quiet (fail)
      have HBZ := Lib.hid (bdrw HB.out nq)
      generalize wr.drewN nq = w5 at *
      clear p0 p1 p2 p3 ax f0 f1 f2
      go_wp2_with fail
      go_roundw
      case rel => exact ⟨k + 1, HLT.out, by go_num, by rw [HNS.out], HBZ⟩
      case measure => simp [intOf]; have := HLT.out; omega
    · obtain rfl : want.length = k := by omega
      clear hbw
      go_wp2_with (first
        | (go_at_call 63; refine (HRM.out _ (HX.out _ HB.out).1).mono ?_; rintro e w3 ⟨⟨tb, rb, rfl, hr3⟩, hb3⟩; have HR3 := Lib.hid hr3; have HB3 := Lib.hid hb3; clear hr3 hb3 p0 p1 p2 p3)
        | (go_at_call 64; refine (HFI.out _ tb rb _ HR3.out HB3.out.size).mono ?_; rintro e w4 ⟨_, rfl, sum, c', R, rfl, _, _, _, hm4, hb4⟩; have HM4 := Lib.hid hm4; have HB4 := Lib.hid hb4; clear hm4 hb4)
        | fail)
      go_ret
      exact ⟨(HX.out _ (HB.out.trans ((HB3.out.trans (HB4.out.mono (Nat.le_refl _))).mono HB.out.size))).1, sum, R, ret_b (by first | rfl | (rw [Bool.eq_iff_iff]; simp)), HM4.out⟩
set_option maxRecDepth 100000 in
set_option maxHeartbeats 8000000 in
theorem rCarries_any (g : MGrid) (A1 A2 A3 : Option Addr) (c1 c2 c3 : Nat) (A : Option Addr) (cap : Nat) (F : List MFault) (Aw : Option Addr) (wc : Nat) (want : List Int) (w : World) (h : GridA w w.heap.size g A1 A2 A3) (hf : FaultsA w w.heap.size A F) (hw : IntsA w w.heap.size Aw want) :
    Calls Try.prog 26 #[.agg (gridC g A1 A2 A3 c1 c2 c3), .slice A F.length cap, .slice Aw want.length wc] w (CarriesP g F want w) := by
  obtain ⟨w1, hw1⟩ : ∃ w1, w.alloc (.cells #[.int .i64 g.nodes, .slice A1 g.lines.length c1, .slice A2 g.srcs.length c2, .slice A3 g.users.length c3] 26) = w1 := ⟨_, rfl⟩
  have hb1 : Below w.heap.size w w1 := by rw [← hw1]; exact (Below.refl _ _).alloc (Nat.le_refl _) _
  have hs1 : w1.heap.size = w.heap.size + 1 := by rw [← hw1]; simp
  have hx1 : w1.heap[w.heap.size]? = some (.cells #[.int .i64 g.nodes, .slice A1 g.lines.length c1, .slice A2 g.srcs.length c2, .slice A3 g.users.length c3] 26 (0, 0)) := by rw [← hw1]; exact heap_alloc_new w _
  have HX : Hid (∀ W, Below w1.heap.size w1 W → Below w.heap.size w W ∧ W.cell? ⟨w.heap.size, 0, none⟩ = some (.int .i64 g.nodes) ∧ W.cell? ⟨w.heap.size, 1, none⟩ = some (.slice A1 g.lines.length c1) ∧ W.cell? ⟨w.heap.size, 2, none⟩ = some (.slice A2 g.srcs.length c2) ∧ W.cell? ⟨w.heap.size, 3, none⟩ = some (.slice A3 g.users.length c3)) := fun W hW => by
    have h1 := (hW.block w.heap.size (by omega)).trans hx1
    exact ⟨hb1.trans (hW.mono (by omega)), cell_of_row W _ 0 _ _ _ h1, cell_of_row W _ 1 _ _ _ h1, cell_of_row W _ 2 _ _ _ h1, cell_of_row W _ 3 _ _ _ h1⟩
  have HG : Hid (∀ W, Below w.heap.size w W → GridA W W.heap.size g A1 A2 A3 ∧ FaultsA W W.heap.size A F ∧ IntsA W W.heap.size Aw want) := fun W hW => ⟨(h.keep hW).more hW.size, (hf.keep hW).more hW.size, (hw.below hW (Nat.le_refl _)).more hW.size⟩
  obtain ⟨_, p0, p1, p2, p3⟩ := HX.out w1 (Below.refl _ _)
  obtain ⟨E, hE⟩ : ∃ E, checkA g F want = E := ⟨_, rfl⟩
  have HE := Lib.hid hE
  have HAL := Lib.hid (fun W hW => rcheckA_any g A1 A2 A3 c1 c2 c3 A cap F Aw wc want W (HG.out W hW).1 (HG.out W hW).2.1 (HG.out W hW).2.2 hE)
  unfold gridC at HAL ⊢
  clear h hf hw hb1 hx1
  by_cases hz : E = 0
  · subst hz
    obtain ⟨hk1, _, hk3⟩ := checkA_ok hE
    obtain ⟨n, hgo⟩ := checkG_ok hk1
    obtain ⟨hwo, hwl⟩ := checkW_ok hk3
    have hnu := hgo.nu
    have HCA := Lib.hid (fun W hW => rcarries_any g A1 A2 A3 c1 c2 c3 A cap F Aw wc want W (HG.out W hW).1 (HG.out W hW).2.1 (HG.out W hW).2.2 hgo hwo (by omega))
    unfold gridC at HCA
    have HGO := Lib.hid hgo
    clear hk1 hk3 hE hgo hwo
    go_enter Try.func26, Try.ntmps26
    go_wp2_with (first
      | (go_at_call 62; refine (HAL.out _ (HX.out _ (Below.refl _ _)).1).mono ?_; rintro e w2 ⟨rfl, hb2⟩; have HB2 := Lib.hid hb2; clear hb2 p0 p1 p2 p3; obtain ⟨_, p0, p1, p2, p3⟩ := HX.out w2 HB2.out)
      | (go_at_call 66; refine (HCA.out _ (HX.out _ HB2.out).1).mono ?_; rintro e w3 ⟨hb3, sum, R, rfl, hm⟩; have HM := Lib.hid hm; have HB3 := Lib.hid hb3; clear hb3 hm))
    go_ret2
    exact ⟨(HX.out _ HB2.out).1.trans (HB3.out.mono (HX.out _ HB2.out).1.size), _, by rw [HE.out]; rfl, fun h => absurd HE.out h, fun _ => ⟨n, sum, R, HGO.out, HM.out, rfl⟩⟩
  · have hz' : (E != 0) = true := by simpa using hz
    have HZN : Hid (E ≠ 0) := hz
    clear hE hz
    go_enter Try.func26, Try.ntmps26
    go_wp2_with (go_at_call 62; refine (HAL.out _ (HX.out _ (Below.refl _ _)).1).mono ?_; rintro e w2 ⟨rfl, hb2⟩; have HB2 := Lib.hid hb2; clear hb2)
    go_ret2
    exact ⟨(HX.out _ HB2.out).1, false, by rw [HE.out]; rfl, fun _ => rfl, fun h => absurd (HE.out.symm.trans h) HZN.out⟩
end Go.Proofs.Ytegclodchhcbaaa
