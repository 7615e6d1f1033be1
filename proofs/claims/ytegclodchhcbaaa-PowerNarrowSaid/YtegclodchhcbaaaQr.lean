/- Walk: Spare: the reference's. Printed by gen_qr8.py. -/
import Derived.Test.YtegclodchhcbaaaQa
namespace Go.Proofs.Ytegclodchhcbaaa
open Go.RowKit

set_option maxRecDepth 100000 in
set_option maxHeartbeats 8000000 in
theorem rSpare_any (g : MGrid) (A1 A2 A3 : Option Addr) (c1 c2 c3 : Nat) (u : Int) (w : World) (h : GridA w w.heap.size g A1 A2 A3) :
    Calls Try.prog 41 #[.agg (gridC g A1 A2 A3 c1 c2 c3), .int .i64 u] w (SpareP g u w) := by
  obtain ⟨w1, hw1⟩ : ∃ w1, w.alloc (.cells #[.int .i64 g.nodes, .slice A1 g.lines.length c1, .slice A2 g.srcs.length c2, .slice A3 g.users.length c3] 26) = w1 := ⟨_, rfl⟩
  have hb1 : Below w.heap.size w w1 := by rw [← hw1]; exact (Below.refl _ _).alloc (Nat.le_refl _) _
  have hs1 : w1.heap.size = w.heap.size + 1 := by rw [← hw1]; simp
  have hx1 : w1.heap[w.heap.size]? = some (.cells #[.int .i64 g.nodes, .slice A1 g.lines.length c1, .slice A2 g.srcs.length c2, .slice A3 g.users.length c3] 26 (0, 0)) := by rw [← hw1]; exact heap_alloc_new w _
  have HX : Hid (∀ W, Below w1.heap.size w1 W → Below w.heap.size w W ∧ W.cell? ⟨w.heap.size, 0, none⟩ = some (.int .i64 g.nodes) ∧ W.cell? ⟨w.heap.size, 1, none⟩ = some (.slice A1 g.lines.length c1) ∧ W.cell? ⟨w.heap.size, 2, none⟩ = some (.slice A2 g.srcs.length c2) ∧ W.cell? ⟨w.heap.size, 3, none⟩ = some (.slice A3 g.users.length c3)) := fun W hW => by
    have h1 := (hW.block w.heap.size (by omega)).trans hx1
    exact ⟨hb1.trans (hW.mono (by omega)), cell_of_row W _ 0 _ _ _ h1, cell_of_row W _ 1 _ _ _ h1, cell_of_row W _ 2 _ _ _ h1, cell_of_row W _ 3 _ _ _ h1⟩
  have HG : Hid (∀ W, Below w.heap.size w W → GridA W W.heap.size g A1 A2 A3) := fun W hW => (h.keep hW).more hW.size
  obtain ⟨_, p0, p1, p2, p3⟩ := HX.out w1 (Below.refl _ _)
  obtain ⟨E, hE⟩ : ∃ E, checkG g = E := ⟨_, rfl⟩
  have HE := Lib.hid hE
  have HCK := Lib.hid (fun W hW => rcheck_any g A1 A2 A3 c1 c2 c3 W (HG.out W hW) hE)
  have HB0 : Hid (Below w1.heap.size w1 w1) := Below.refl _ _
  unfold gridC at HCK ⊢
  clear h hb1 hx1
  by_cases hz : E = 0
  · subst hz
    obtain ⟨n, hgo⟩ := checkG_ok hE
    have hpw := checkG_pow hE
    have hnu := hgo.nu
    have hnl := hgo.nl
    have hns := hgo.ns
    by_cases hu0 : u < 0
    · have HU : Hid (¬ (0 ≤ u ∧ u < (g.users.length : Int))) := fun h => by omega
      clear hE hgo hpw
      go_enter Try.func41, Try.ntmps41
      go_wp2_with (go_at_call 36; refine (HCK.out _ (HX.out _ (Below.refl _ _)).1).mono ?_; rintro e w2 ⟨rfl, hb2⟩; have HB2 := Lib.hid hb2; clear hb2 p0 p1 p2 p3; obtain ⟨_, p0, p1, p2, p3⟩ := HX.out w2 HB2.out)
      go_ret2
      exact ⟨(HX.out _ HB2.out).1, .inr (.inl ⟨HE.out, HU.out, rfl⟩)⟩
    · obtain ⟨k, rfl⟩ : ∃ k : Nat, u = (k : Int) := ⟨u.toNat, by omega⟩
      clear hu0
      by_cases hk : k < g.users.length
      · have HU : Hid (0 ≤ (k : Int) ∧ (k : Int) < (g.users.length : Int)) := by constructor <;> omega
        have HEV : Hid (∀ W, Below w1.heap.size w1 W → Calls Try.prog 74 #[.agg (gridC g A1 A2 A3 c1 c2 c3)] W fun e w' => ∃ A c, e = .returned (.slice A g.users.length c) ∧ IntsA w' w'.heap.size A (allL g.users.length) ∧ Below W.heap.size W w') := fun W hW => everybody_any g A1 A2 A3 c1 c2 c3 W (HG.out W (HX.out W hW).1) (by omega)
        have HCR : Hid (∀ W Aw wc, Below w1.heap.size w1 W → IntsA W W.heap.size Aw (allL g.users.length) → Calls Try.prog 66 #[.agg (gridC g A1 A2 A3 c1 c2 c3), .slice none 0 0, .slice Aw g.users.length wc] W fun e w' => e = .returned (.bool (carB g [] (allL g.users.length))) ∧ Below W.heap.size W w') := fun W Aw wc hW hi => by
          have := rcarries_any g A1 A2 A3 c1 c2 c3 none 0 [] Aw wc (allL g.users.length) W (HG.out W (HX.out W hW).1) ⟨Nat.zero_le _, fun h => by simp at h⟩ hi hgo (allL_want' g) (by rw [allL_len]; omega)
          rw [allL_len] at this
          exact this.mono fun e w' h => h.car hgo
        have HGR : Hid (∀ m : Int, 0 ≤ m → m ≤ 700000 → ∀ W B1 B2 B3 d1 d2 d3 Aw wc, GridA W W.heap.size (grown g k m) B1 B2 B3 → IntsA W W.heap.size Aw (allL g.users.length) → Calls Try.prog 66 #[.agg #[.int .i64 g.nodes, .slice B1 g.lines.length d1, .slice B2 g.srcs.length d2, .slice B3 g.users.length d3], .slice none 0 0, .slice Aw g.users.length wc] W fun e w' => e = .returned (.bool (carB (grown g k m) [] (allL g.users.length))) ∧ Below W.heap.size W w') := fun m h0 hm W B1 B2 B3 d1 d2 d3 Aw wc hgw hiw => by
          have hgk := grown_ok hgo hpw ⟨h0, hm⟩ hk
          have hwk : WantOk (grown g k m) (allL g.users.length) := by
            have := allL_want' (grown g k m)
            rw [grown_len] at this
            exact this
          have := rcarries_any (grown g k m) B1 B2 B3 d1 d2 d3 none 0 [] Aw wc (allL g.users.length) W hgw ⟨Nat.zero_le _, fun h => by simp at h⟩ hiw hgk hwk (by rw [allL_len]; omega)
          unfold gridC at this
          rw [allL_len, grown_len] at this
          exact this.mono fun e w' h => h.car hgk
        have HCP : Hid (∀ W, Below w1.heap.size w1 W → Calls Try.prog 40 #[.agg (gridC g A1 A2 A3 c1 c2 c3)] W fun e w' => ∃ B1 B2 B3 d1 d2 d3, e = .returned (.agg #[.int .i64 g.nodes, .slice B1 g.lines.length d1, .slice B2 g.srcs.length d2, .slice B3 g.users.length d3]) ∧ OwnG w' W.heap.size g B1 B2 B3 ∧ Below W.heap.size W w') := fun W hW => (copy_any g A1 A2 A3 c1 c2 c3 W (HG.out W (HX.out W hW).1) ⟨by omega, by omega, by omega⟩).mono fun e w' ⟨B1, B2, B3, d1, d2, d3, he, ho, _, hb⟩ => ⟨B1, B2, B3, d1, d2, d3, he, ho, hb⟩
        have HPW : Hid (1 ≤ (g.users.getD k dUser).power ∧ (g.users.getD k dUser).power ≤ 1000000) := (hgo.user _ (getD_in hk dUser)).2.1
        have HSZ : Hid (g.lines.length ≤ maxLen ∧ g.srcs.length ≤ maxLen ∧ g.users.length ≤ maxLen) := by
          have : (1000 : Nat) ≤ maxLen := by decide
          refine ⟨?_, ?_, ?_⟩ <;> omega
        unfold gridC at HEV HCR HCP
        clear hE hgo hpw
        by_cases hc : carG g [] (allL g.users.length)
        · have hcb := carB_iff.2 hc
          have HC := Lib.hid hc
          rw [hcb] at HCR
          clear hcb hc
          go_enter Try.func41, Try.ntmps41
          go_wp2_with (first
            | (go_at_call 36; refine (HCK.out _ (HX.out _ (Below.refl _ _)).1).mono ?_; rintro e w2 ⟨rfl, hb2⟩; have HB2 : Below w1.heap.size w1 w2 := hb2; clear hb2 p0 p1 p2 p3; obtain ⟨_, p0, p1, p2, p3⟩ := HX.out w2 HB2)
            | (go_at_call 74; refine (HEV.out _ HB2).mono ?_; rintro e w3 ⟨Ae, ce, rfl, hi3, hb3⟩; have HI3 := Lib.hid hi3; have HB3 : Below w1.heap.size w1 w3 := bel_next HB2 hb3; clear hi3 hb3 p0 p1 p2 p3; obtain ⟨_, p0, p1, p2, p3⟩ := HX.out w3 HB3)
            | (go_at_call 66; refine (HCR.out _ Ae ce HB3 HI3.out).mono ?_; rintro e w4 ⟨rfl, hb4⟩; have HI4 : Hid (IntsA w4 w4.heap.size Ae (allL g.users.length)) := (HI3.out.below hb4 (Nat.le_refl _)).more hb4.size; have HB4 : Hid (Below w1.heap.size w1 w4) := bel_next HB3 hb4; clear hb4 p0 p1 p2 p3)
            | fail)
          clear HEV HCR HCK HI3 HB3 HB2
          go_loopw [8, 9] (fun vl vh wr => ∃ lo hi : Int, vl = .int .i64 lo ∧ vh = .int .i64 hi ∧ 0 ≤ lo ∧ lo < hi ∧ hi ≤ 600001 ∧ Hid ((0 < lo → carG (grown g k lo) [] (allL g.users.length)) ∧ (hi ≤ 600000 → ¬ carG (grown g k hi) [] (allL g.users.length))) ∧ Hid (Below w4.heap.size w4 wr)) (fun vl vh _ => (intOf vh - intOf vl).toNat)
          case atStart => exact ⟨0, 600001, rfl, rfl, Int.le_refl _, by omega, Int.le_refl _, ⟨fun h => absurd h (by omega), fun h => absurd h (by omega)⟩, Below.refl _ _⟩
          case round =>
            obtain ⟨lo, hi, rfl, rfl, hlo, hlh, hhi, HM, HB⟩ := hrel
            rename World => wr
            have HBr : Below w1.heap.size w1 wr := bel_next HB4.out HB.out
            obtain ⟨_, p0, p1, p2, p3⟩ := HX.out wr HBr
            by_cases hlt : 1 < hi - lo
            · have hmid : lo < (lo + hi) / 2 ∧ (lo + hi) / 2 < hi := by omega
              have HMD : Hid (lo < (lo + hi) / 2 ∧ (lo + hi) / 2 < hi) := hmid
              go_upto_region 13 with (first
                | (go_at_call 40; refine (HCP.out _ HBr).mono ?_; rintro e w5 ⟨B1, B2, B3, d1, d2, d3, rfl, ho5, hb5⟩; have HO5 := Lib.hid ho5; have HB5 := Lib.hid hb5; clear ho5 hb5)
                | fail)
              obtain ⟨w6, hw6⟩ : ∃ w6, w5.alloc (.cells #[.int .i64 g.nodes, .slice B1 g.lines.length d1, .slice B2 g.srcs.length d2, .slice B3 g.users.length d3] 26) = w6 := ⟨_, rfl⟩
              have hb6 : Below w5.heap.size w5 w6 := by rw [← hw6]; exact (Below.refl _ _).alloc (Nat.le_refl _) _
              have hx6 : w6.heap[w5.heap.size]? = some (.cells #[.int .i64 g.nodes, .slice B1 g.lines.length d1, .slice B2 g.srcs.length d2, .slice B3 g.users.length d3] 26 (0, 0)) := by rw [← hw6]; exact heap_alloc_new w5 _
              have ho6 : OwnG w6 wr.heap.size g B1 B2 B3 := ⟨HO5.out.l.keep hb6, HO5.out.s.keep hb6, HO5.out.u.keep hb6⟩
              rw [hw6]
              clear hw6
              obtain ⟨m, hm⟩ : ∃ m, (lo + hi) / 2 = m := ⟨_, rfl⟩
              rw [hm] at hmid HMD ⊢
              clear hm
              obtain ⟨gu, hB3, hgB, hcu, hfu, hgl, hne, ho7⟩ := ho6.grow hk m
              subst hB3
              have q3 := cell_of_row w6 _ 3 _ _ _ hx6
              simp only [List.getElem?_toArray, List.getElem?_cons_succ, List.getElem?_cons_zero] at q3
              have hpo := HPW.out
              obtain ⟨po, hpo'⟩ : ∃ po, (g.users.getD k dUser).power = po := ⟨_, rfl⟩
              rw [hpo'] at hcu hpo ho7
              have e1 : IntKind.i64.wrap (po + m) = po + m := IntWalk.i64_in _ (by omega)
              have HX7 : Hid (∀ W, W = (w6.setCell ⟨gu, k * 3 + 1, none⟩ (.int .i64 (po + m))).drew → Below wr.heap.size wr W ∧ OwnG W wr.heap.size (grown g k m) B1 B2 (some ⟨gu, 0, none⟩) ∧ W.heap[w5.heap.size]? = some (.cells #[.int .i64 g.nodes, .slice B1 g.lines.length d1, .slice B2 g.srcs.length d2, .slice (some ⟨gu, 0, none⟩) g.users.length d3] 26 (0, 0))) := fun W hW => by
                subst hW
                refine ⟨((HB5.out.trans (hb6.mono HB5.out.size)).setCell (p := ⟨gu, k * 3 + 1, none⟩) hgB _).drew, ⟨ho7.l, ho7.s, ho7.u⟩, ?_⟩
                exact (Below.heap_setCell w6 ⟨gu, k * 3 + 1, none⟩ _ w5.heap.size (hne _ _ _ _ hx6 (by decide))).trans hx6
              have HK := Lib.hid hk
              clear ho7 ho6 hb6 hx6 hne hpo'
              refine wp_region_quiet_tail 13 (by kernel_rfl) (by kernel_rfl) ?_
              simp only [List.take_succ_cons, List.take_zero, List.drop_succ_cons, List.drop_zero]
              repeat (go_big_quiet_step (fail))
              refine wpQuiet_nil ?_
              have HCS : Hid (∀ W, W = (w6.setCell ⟨gu, k * 3 + 1, none⟩ (.int .i64 (po + m))).drew → W.cell? ⟨w5.heap.size, 0, none⟩ = some (.int .i64 g.nodes) ∧ W.cell? ⟨w5.heap.size, 1, none⟩ = some (.slice B1 g.lines.length d1) ∧ W.cell? ⟨w5.heap.size, 2, none⟩ = some (.slice B2 g.srcs.length d2) ∧ W.cell? ⟨w5.heap.size, 3, none⟩ = some (.slice (some ⟨gu, 0, none⟩) g.users.length d3)) := fun W hW => by
                have h1 := (HX7.out W hW).2.2
                exact ⟨cell_of_row W _ 0 _ _ _ h1, cell_of_row W _ 1 _ _ _ h1, cell_of_row W _ 2 _ _ _ h1, cell_of_row W _ 3 _ _ _ h1⟩
              obtain ⟨r0, r1, r2, r3⟩ := HCS.out _ rfl
              have HIW : Hid (∀ W, Below wr.heap.size wr W → IntsA W W.heap.size Ae (allL g.users.length)) := fun W hW => (HI4.out.below (HB.out.trans (hW.mono HB.out.size)) (Nat.le_refl _)).more (Nat.le_trans HB.out.size hW.size)
              have HGC := Lib.hid (fun W hW => HGR.out m (by omega) (by omega) W B1 B2 (some ⟨gu, 0, none⟩) d1 d2 d3 Ae ce ((HX7.out W hW).2.1.grid HSZ.out.1 HSZ.out.2.1 (by rw [grown_len]; exact HSZ.out.2.2)) (HIW.out W (HX7.out W hW).1))
              rcases hcr : carB (grown g k m) [] (allL g.users.length)
              · have HCN : Hid (¬ carG (grown g k m) [] (allL g.users.length)) := fun h => by rw [carB_iff.2 h] at hcr; cases hcr
                rw [hcr] at HGC
                clear hcr
                go_wp2_with (go_at_call 66; refine (HGC.out _ rfl).mono ?_; rintro e w8 ⟨rfl, hb8⟩; have HB8 : Hid (Below w4.heap.size w4 w8) := bel_next (bel_next HB.out (HX7.out _ rfl).1) hb8; clear hb8)
                go_roundw
                case rel => exact ⟨lo, m, rfl, rfl, hlo, HMD.out.1, by have := HMD.out.2; omega, ⟨HM.out.1, fun _ => HCN.out⟩, HB8⟩
                case measure => simp [intOf]; have := HMD.out; omega
              · have HCY := Lib.hid (carB_iff.1 hcr)
                rw [hcr] at HGC
                clear hcr
                go_wp2_with (go_at_call 66; refine (HGC.out _ rfl).mono ?_; rintro e w8 ⟨rfl, hb8⟩; have HB8 : Hid (Below w4.heap.size w4 w8) := bel_next (bel_next HB.out (HX7.out _ rfl).1) hb8; clear hb8)
                go_roundw
                case rel => exact ⟨m, hi, rfl, rfl, by have := HMD.out.1; omega, HMD.out.2, hhi, ⟨fun _ => HCY.out, HM.out.2⟩, HB8⟩
                case measure => simp [intOf]; have := HMD.out; omega
            · obtain rfl : hi = lo + 1 := by omega
              go_wp2_with fail
              go_ret2
              exact ⟨(HX.out _ HBr).1, .inr (.inr (.inr ⟨HE.out, HU.out, HC.out, lo, ⟨hlo, by omega, by rw [Int.toNat_natCast]; exact HM.out.1, fun h => by rw [Int.toNat_natCast]; exact HM.out.2 (by omega)⟩, rfl⟩))⟩
        · have hcb : carB g [] (allL g.users.length) = false := by
            rcases e : carB g [] (allL g.users.length)
            · rfl
            · exact absurd (carB_iff.1 e) hc
          have HC := Lib.hid hc
          rw [hcb] at HCR
          clear hcb hc
          go_enter Try.func41, Try.ntmps41
          go_wp2_with (first
            | (go_at_call 36; refine (HCK.out _ (HX.out _ (Below.refl _ _)).1).mono ?_; rintro e w2 ⟨rfl, hb2⟩; have HB2 : Below w1.heap.size w1 w2 := hb2; clear hb2 p0 p1 p2 p3; obtain ⟨_, p0, p1, p2, p3⟩ := HX.out w2 HB2)
            | (go_at_call 74; refine (HEV.out _ HB2).mono ?_; rintro e w3 ⟨Ae, ce, rfl, hi3, hb3⟩; have HI3 := Lib.hid hi3; have HB3 : Below w1.heap.size w1 w3 := bel_next HB2 hb3; clear hi3 hb3 p0 p1 p2 p3; obtain ⟨_, p0, p1, p2, p3⟩ := HX.out w3 HB3)
            | (go_at_call 66; refine (HCR.out _ Ae ce HB3 HI3.out).mono ?_; rintro e w4 ⟨rfl, hb4⟩; have HB4 : Hid (Below w1.heap.size w1 w4) := bel_next HB3 hb4; clear hb4 p0 p1 p2 p3)
            | fail)
          go_ret2
          exact ⟨(HX.out _ HB4.out).1, .inr (.inr (.inl ⟨HE.out, HU.out, HC.out, rfl⟩))⟩
      · have HU : Hid (¬ (0 ≤ (k : Int) ∧ (k : Int) < (g.users.length : Int))) := fun h => by omega
        clear hE hgo hpw
        go_enter Try.func41, Try.ntmps41
        go_wp2_with (go_at_call 36; refine (HCK.out _ (HX.out _ (Below.refl _ _)).1).mono ?_; rintro e w2 ⟨rfl, hb2⟩; have HB2 := Lib.hid hb2; clear hb2 p0 p1 p2 p3; obtain ⟨_, p0, p1, p2, p3⟩ := HX.out w2 HB2.out)
        go_ret2
        exact ⟨(HX.out _ HB2.out).1, .inr (.inl ⟨HE.out, HU.out, rfl⟩)⟩
  · have hz' : (E != 0) = true := by simpa using hz
    have HZN : Hid (E ≠ 0) := hz
    clear hE hz
    go_enter Try.func41, Try.ntmps41
    go_wp2_with (go_at_call 36; refine (HCK.out _ (HX.out _ (Below.refl _ _)).1).mono ?_; rintro e w2 ⟨rfl, hb2⟩; have HB2 := Lib.hid hb2; clear hb2 p0 p1 p2 p3)
    go_ret2
    exact ⟨(HX.out _ HB2.out).1, .inl ⟨by rw [HE.out]; exact HZN.out, by rw [HE.out]; rfl⟩⟩
end Go.Proofs.Ytegclodchhcbaaa
