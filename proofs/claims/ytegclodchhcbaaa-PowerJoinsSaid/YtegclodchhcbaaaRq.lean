/- Walks: Cut: the reference's. Printed by gen_rq8.py. -/
import Derived.Test.YtegclodchhcbaaaRp
import Derived.Test.YtegclodchhcbaaaFc
namespace Go.Proofs.Ytegclodchhcbaaa
open Go.RowKit

theorem cutL_more (R : Nat → Bool) (n : Nat) : ∀ d : Nat, cutL R n (n + d) = cutL R n n
  | 0 => rfl
  | d + 1 => by rw [← Nat.add_assoc, cutL_step, cutL_more R n d, if_neg (by rw [decide_eq_false (show ¬ n + d < n by omega), Bool.false_and]; decide)]
set_option maxRecDepth 100000 in
set_option maxHeartbeats 8000000 in
theorem rCut_any (g : MGrid) (A1 A2 A3 : Option Addr) (c1 c2 c3 : Nat) (A : Option Addr) (cap : Nat) (F : List MFault) (Aw : Option Addr) (wc : Nat) (want : List Int) (w : World) (h : GridA w w.heap.size g A1 A2 A3) (hf : FaultsA w w.heap.size A F) (hw : IntsA w w.heap.size Aw want) :
    Calls Try.prog 29 #[.agg (gridC g A1 A2 A3 c1 c2 c3), .slice A F.length cap, .slice Aw want.length wc] w (CutP g F want w) := by
  obtain ⟨w1, hw1⟩ : ∃ w1, w.alloc (.cells #[.int .i64 g.nodes, .slice A1 g.lines.length c1, .slice A2 g.srcs.length c2, .slice A3 g.users.length c3] 26) = w1 := ⟨_, rfl⟩
  have hb1 : Below w.heap.size w w1 := by rw [← hw1]; exact (Below.refl _ _).alloc (Nat.le_refl _) _
  have hs1 : w1.heap.size = w.heap.size + 1 := by rw [← hw1]; simp
  have hx1 : w1.heap[w.heap.size]? = some (.cells #[.int .i64 g.nodes, .slice A1 g.lines.length c1, .slice A2 g.srcs.length c2, .slice A3 g.users.length c3] 26 (0, 0)) := by rw [← hw1]; exact heap_alloc_new w _
  have HX : Hid (∀ W, Below w1.heap.size w1 W → Below w.heap.size w W ∧ W.cell? ⟨w.heap.size, 0, none⟩ = some (.int .i64 g.nodes) ∧ W.cell? ⟨w.heap.size, 1, none⟩ = some (.slice A1 g.lines.length c1) ∧ W.cell? ⟨w.heap.size, 2, none⟩ = some (.slice A2 g.srcs.length c2) ∧ W.cell? ⟨w.heap.size, 3, none⟩ = some (.slice A3 g.users.length c3)) := fun W hW => by
    have h1 := (hW.block w.heap.size (by omega)).trans hx1
    exact ⟨hb1.trans (hW.mono (by omega)), cell_of_row W _ 0 _ _ _ h1, cell_of_row W _ 1 _ _ _ h1, cell_of_row W _ 2 _ _ _ h1, cell_of_row W _ 3 _ _ _ h1⟩
  have HG : Hid (∀ W, Below w.heap.size w W → GridA W W.heap.size g A1 A2 A3 ∧ FaultsA W W.heap.size A F ∧ IntsA W W.heap.size Aw want) := fun W hW => ⟨(h.keep hW).more hW.size, (hf.keep hW).more hW.size, (hw.below hW (Nat.le_refl _)).more hW.size⟩
  obtain ⟨_, p0, p1, p2, p3⟩ := HX.out w1 (Below.refl _ _)
  obtain ⟨E, hE⟩ : ∃ E, checkA g F want = E := ⟨_, rfl⟩
  have HE := Lib.hid hE
  have HAL := Lib.hid (fun W hW => rcheckA_any g A1 A2 A3 c1 c2 c3 A cap F Aw wc want W (HG.out W hW).1 (HG.out W hW).2.1 (HG.out W hW).2.2 hE)
  by_cases hz : E = 0
  · subst hz
    obtain ⟨hk1, _, hk3⟩ := checkA_ok hE
    obtain ⟨n, hgo⟩ := checkG_ok hk1
    obtain ⟨hwo, hwl⟩ := checkW_ok hk3
    have hnu := hgo.nu
    have hwl2 : want.length ≤ 100 := by omega
    have HRM := Lib.hid (fun W hW => room_any g n A1 A2 A3 c1 c2 c3 A cap F Aw wc want W (HG.out W hW).1 (HG.out W hW).2.1 (HG.out W hW).2.2 hgo hwo hwl2)
    have HFI : Hid (∀ B tb rb W, RTabA W B tb (n + 2) rb (refT g F want n (n + 1)) → B ≤ W.heap.size → _) := fun B tb rb W hr hB => filled_any g n F want B tb rb W hr hB hgo hwo hwl2
    have hfew := hgo.few
    have HBE : Hid (∀ B tb rb c W, RTabA W B tb (n + 2) rb c → _) := fun B tb rb c W hr => before_any B tb (n + 2) rb c W hr (by omega)
    have HGR : Hid (∀ sum R, Most (n + 2) (refT g F want n (n + 1)) n (n + 1) sum R → MostG g F want n sum R) := fun sum R hm => hm.grid (fun S hb he => cut_refT hgo hwo (by omega) (by omega) (by omega) hb he) hgo hwo (by omega) (Nat.le_refl _) (by omega) (by omega)
    have HGO := Lib.hid hgo
    have HGN : Hid (g.nodes = (n : Int)) := hgo.nodes
    unfold gridC at HAL HRM ⊢
    clear h hf hw hb1 hx1 hk1 hk3 hE hgo hwo
    go_enter Try.func29, Try.ntmps29
    go_wp2_with (first
      | (go_at_call 62; refine (HAL.out _ (HX.out _ (Below.refl _ _)).1).mono ?_; rintro e w2 ⟨rfl, hb2⟩; have HB2 := Lib.hid hb2; clear hb2 p0 p1 p2 p3; obtain ⟨_, p0, p1, p2, p3⟩ := HX.out w2 HB2.out)
      | (go_at_call 63; refine (HRM.out _ (HX.out _ HB2.out).1).mono ?_; rintro e w3 ⟨⟨tb, rb, rfl, hr3⟩, hb3⟩; have HR3 := Lib.hid hr3; have HB3 := Lib.hid hb3; clear hr3 hb3 p0 p1 p2 p3)
      | (go_at_call 64; refine (HFI.out _ tb rb _ HR3.out HB3.out.size).mono ?_; rintro e w4 ⟨_, rfl, sum, c', R, rfl, hr4, hl4, hm4, _, hb4⟩; have HR4 := Lib.hid hr4; have HL4 := Lib.hid hl4; have HM4 := Lib.hid hm4; have HB4 := Lib.hid (HB2.out.trans ((HB3.out.trans (hb4.mono (Nat.le_refl _))).mono HB2.out.size)); clear hr4 hl4 hm4 hb4)
      | (go_at_call 68; refine (HBE.out _ tb rb _ _ HR4.out).mono ?_; rintro e w5 ⟨⟨gb, back, rfl, ho5, _, hk5⟩, hb5⟩; have HO5 := Lib.hid ho5; have HB5 := Lib.hid (HB4.out.trans (hb5.mono HB4.out.size)); have HMO := Lib.hid (HGR.out _ _ (HL4.out.reach HM4.out (by simpa only [Nat.add_sub_cancel] using hk5) (by omega))); clear ho5 hb5 hk5)
      | fail)
    have HZ0 : Hid (Below w5.heap.size w5 w5) := Below.refl _ _
    go_loopw [14, 13] (fun vi vs wr => ∃ i : Nat, i ≤ n ∧ vi = .int .i64 i ∧ Hid (OutI wr w5.heap.size vs (cutL (seen back) n i)) ∧ Hid (Below w5.heap.size w5 wr)) (fun vi _ _ => n - (intOf vi).toNat)
    case atStart => exact ⟨0, by omega, rfl, OutI.nil _ _, HZ0⟩
    case round =>
      clear HZ0
      obtain ⟨i, hi, rfl, HO, HB⟩ := hrel
      rename World => wr
      have HBA := Lib.hid (HX.out wr (HB5.out.trans (HB.out.mono HB5.out.size)))
      obtain ⟨_, p0, p1, p2, p3⟩ := HBA.out
      rw [HGN.out] at p0
      by_cases hlt : i < n
      · have hbc := (HO5.out.below HB.out HO5.out.lt).cell (show i < n + 2 by omega)
        have hst := cutL_step (seen back) n i
        have HST := Lib.hid hst
        have hul : (cutL (seen back) n i).length ≤ 1000000 := by have := cutL_len (seen back) n i; omega
        obtain ⟨A6, q6, hv6, _⟩ := HO.out.lenV
        have HB9 : Hid (w5.heap.size ≤ (wr.alloc (.cells #[.int .i64 i] 3)).heap.size) := by have := HB.out.size; show _ ≤ _; simp; omega
        have HQ0 := Lib.hid (newcell wr #[.int .i64 i] 3 0)
        clear hst
        by_cases h2 : 0 ≤ back i
        · have HEQ : Hid (cutL (seen back) n (i + 1) = cutL (seen back) n i ++ [(i : Int)]) := by show _ = _; rw [HST.out, if_pos (by rw [decide_eq_true hlt]; exact decide_eq_true h2)]
          have HO6 := Lib.hid (World.ownsRow.alloc HO.out (.cells #[.int .i64 i] 3))
          go_wp2_with (at_builtin; refine app_int _ rfl _ _ rfl w5.heap.size _ (cutL (seen back) n i) rfl HO6.out wr.heap.size i rfl HQ0.out hul HB9.out ?_; intro v7 w7 hO7 hg7; have HO7 := Lib.hid hO7; have HG7 := Lib.hid hg7; clear hO7 hg7)
          go_roundw
          case rel => exact ⟨i + 1, hlt, by go_num, by rw [HEQ.out]; exact HO7.out, (HB.out.alloc HB.out.size _).grown HG7.out HB9.out (fun b hb => (own_block_lt HO.out b hb).1)⟩
          case measure => simp [intOf]; omega
        · have HEQ : Hid (cutL (seen back) n (i + 1) = cutL (seen back) n i) := by show _ = _; rw [HST.out, if_neg (by rw [decide_eq_true hlt]; unfold seen; rw [decide_eq_false h2]; simp)]
          go_wp2_with fail
          go_roundw
          case rel => exact ⟨i + 1, hlt, by go_num, by rw [HEQ.out]; exact HO.out, HB⟩
          case measure => simp [intOf]; omega
      · obtain rfl : n = i := by omega
        have HEND : Hid (cutL (seen back) n n = cutL (seen back) n 22) := by
          show _ = _
          have := cutL_more (seen back) n (22 - n)
          rw [show n + (22 - n) = 22 by omega] at this
          exact this.symm
        go_wp2_with fail
        go_ret3
        refine ⟨HBA.out.1, _, sum, by rw [HE.out]; rfl, fun h => absurd HE.out h, fun _ => ⟨n, seen back, HGO.out, HMO.out, by rw [← HEND.out]; exact own_base HO.out (by have := HB5.out.size; omega)⟩⟩
  · have hz' : (E != 0) = true := by simpa using hz
    have HZN : Hid (E ≠ 0) := hz
    unfold gridC at HAL ⊢
    clear h hf hw hb1 hx1 hE hz
    go_enter Try.func29, Try.ntmps29
    go_wp2_with (go_at_call 62; refine (HAL.out _ (HX.out _ (Below.refl _ _)).1).mono ?_; rintro e w2 ⟨rfl, hb2⟩; have HB2 := Lib.hid hb2; clear hb2)
    go_ret3
    exact ⟨(HX.out _ HB2.out).1, _, 0, by rw [HE.out]; rfl, fun _ => ⟨rfl, rfl⟩, fun h => absurd (HE.out.symm.trans h) HZN.out⟩
end Go.Proofs.Ytegclodchhcbaaa
