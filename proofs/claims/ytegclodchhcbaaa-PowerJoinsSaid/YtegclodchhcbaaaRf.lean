/- Walk: fill, the reference's greatest flow. -/
import Derived.Test.YtegclodchhcbaaaRb
import Derived.Test.YtegclodchhcbaaaFw
namespace Go.Proofs.Ytegclodchhcbaaa
open Go.RowKit

theorem RTabA.put {w : World} {B tb N : Nat} {rb : Nat → Nat} {c : Tab} (h : RTabA w B tb N rb c) {i : Nat} (hi : i < N) (k : Nat) (v : Int) : RTabA (w.setCell ⟨rb i, k, none⟩ (.int .i64 v)) B tb N rb (upd c i k v) := by
  refine ⟨h.out.far (fun e => h.ne i hi e.symm) _, fun x hx => ?_, h.bt, h.br, h.ne, h.inj⟩
  by_cases e : x = i
  · subst e
    exact ((h.row x hx).set k (.int .i64 v)).congr fun y _ => by
      show (if y = k then Value.int .i64 v else .int .i64 (c x y)) = .int .i64 (upd c x k v x y)
      unfold upd
      by_cases e2 : y = k
      · rw [if_pos e2, if_pos ⟨rfl, e2⟩]
      · rw [if_neg e2, if_neg (fun h => e2 h.2)]
  · exact ((h.row x hx).far (p := ⟨rb i, k, none⟩) (fun e2 => e (h.inj x i hx hi e2)) _).congr fun y _ => by rw [upd_ne (fun h => e h.1)]
theorem RTabA.drewN {w : World} {B tb N : Nat} {rb : Nat → Nat} {c : Tab} (h : RTabA w B tb N rb c) (n : Nat) : RTabA (w.drewN n) B tb N rb c := ⟨h.out, h.row, h.bt, h.br, h.ne, h.inj⟩
/-- the first k steps of the way back, of the reference -/
def WayQ (c : Tab) (back : Nat → Int) (b e k : Nat) (d : Int) : Prop := (∀ j, j < k → wayB back e j ≠ b ∧ d ≤ c (wayB back e (j + 1)) (wayB back e j)) ∧ 0 < d
theorem WayQ.step {c : Tab} {back : Nat → Int} {b e k : Nat} {d d' : Int} (h : WayQ c back b e k d) (hne : wayB back e k ≠ b) (h1 : d' ≤ c (wayB back e (k + 1)) (wayB back e k)) (h2 : d' ≤ d) (h3 : 0 < d') : WayQ c back b e (k + 1) d' := by
  refine ⟨fun j hj => ?_, h3⟩
  by_cases e : j = k
  · rw [e]; exact ⟨hne, h1⟩
  · have h4 := h.1 j (by omega)
    exact ⟨h4.1, by omega⟩
def capN (N b : Nat) (c : Tab) : Int := cutN N c (fun x => decide (x = b))
theorem LeftF.le_capN {N b e : Nat} {c0 c' : Tab} {s : Int} (h : LeftF N c0 b e c' s) (hbe : b ≠ e) : s ≤ capN N b c0 := by
  have h1 := h.cut (fun x => decide (x = b)) (by simp) (by simpa using Ne.symm hbe)
  have h2 := cut_nn (N := N) h.nn (fun x => decide (x = b))
  unfold capN
  omega
set_option maxRecDepth 100000 in
set_option maxHeartbeats 8000000 in
theorem fill_any (B tb N : Nat) (rb : Nat → Nat) (c0 : Tab) (w : World) (h : RTabA w B tb N rb c0) (hB : B ≤ w.heap.size) (hN : 3 ≤ N ∧ N ≤ 22) (hnn : ∀ x y, 0 ≤ c0 x y) (hle : ∀ x y, c0 x y ≤ 200000000) (hcs : capN N (N - 2) c0 ≤ 1000000000000) :
    Calls Try.prog 64 #[.slice (some ⟨tb, 0, none⟩) N N] w fun e w' => ∃ sum c' R, e = .returned (.int .i64 sum) ∧ RTabA w' B tb N rb c' ∧ LeftF N c0 (N - 2) (N - 1) c' sum ∧ Most N c0 (N - 2) (N - 1) sum R ∧ Below B w w' := by
  have HT := Lib.hid h
  have HNN := Lib.hid hnn
  have HLE := Lib.hid hle
  have HBE : Hid (N - 2 ≠ N - 1) := by show _ ≠ _; omega
  have HN1 : Hid (((N - 1 : Nat) : Int) = (N : Int) - 1) := by show _ = _; omega
  have HN2 : Hid (((N - 2 : Nat) : Int) = (N : Int) - 2) := by show _ = _; omega
  have HB0 : Hid (Below B w w) := Below.refl _ _
  have hln1 : N - 1 < N := by omega
  clear h hnn hle
  go_enter Try.func64, Try.ntmps64
  go_wp2_with fail
  go_loopw [4] (fun vs wr => ∃ (s : Int) (c : Tab), vs = .int .i64 s ∧ Hid (RTabA wr B tb N rb c) ∧ Hid (LeftF N c0 (N - 2) (N - 1) c s) ∧ Hid (Below B w wr) ∧ 0 ≤ s) (fun vs _ => (capN N (N - 2) c0 - intOf vs).toNat)
  case atStart => exact ⟨0, c0, rfl, HT, LeftF.refl HNN.out, HB0, Int.le_refl _⟩
  case round =>
    clear HT HB0
    obtain ⟨s, c, rfl, HT, HL, HB, hs0⟩ := hrel
    rename World => wr
    have hsl := HL.out.le_capN HBE.out
    have HRC := Lib.hid (before_any B tb N rb c wr HT.out hN)
    go_upto_region 4 with (go_at_call 68; refine HRC.out.mono ?_; rintro e w5 ⟨⟨g, back, rfl, hO, hg, hBK⟩, hb5⟩; have HO := Lib.hid hO; have HBK := Lib.hid hBK; have HB5 := Lib.hid hb5; clear hO hBK hb5)
    have hbs := HB.out.size
    have HT1 : Hid (RTabA w5 B tb N rb c) := HT.out.below HB5.out (Nat.le_refl _)
    have HB1 : Hid (Below B w w5) := HB.out.trans (HB5.out.mono (by omega))
    have HGN : Hid (∀ i, i < N → g ≠ rb i) := fun i hi e => by have := (HT.out.row i hi).lt; omega
    have HGT : Hid (g ≠ tb) := fun e => by have := HT.out.out.lt; omega
    have hBg : B ≤ g := by omega
    clear HT HB HRC HB5
    have c21 := HO.out.cell hln1
    by_cases hb21 : back (N - 1) < 0
    · go_wp2_with fail
      go_ret
      exact ⟨s, c, seen back, rfl, HT1.out, HL.out, HL.out.most HBK.out hb21, HB1.out⟩
    · have hb21' : 0 ≤ back (N - 1) := by omega
      obtain ⟨rank, hrk⟩ := HBK.out.from'
      have HRK := Lib.hid hrk
      have HLC : Hid (∀ x y, 0 ≤ c x y ∧ c x y ≤ 400000000) := fun x y => HL.out.bd HLE.out x y
      have HWO : Hid (∀ k, (∀ j, j < k → wayB back (N - 1) j ≠ N - 2) → wayB back (N - 1) k < N ∧ 0 ≤ back (wayB back (N - 1) k)) := wayB_ok HBK.out hln1 hb21'
      have HW0 : Hid (WayQ c back (N - 2) (N - 1) 0 1099511627776) := ⟨fun j hj => absurd hj (Nat.not_lt_zero _), by decide⟩
      have HB21 := Lib.hid hb21'
      clear hrk hb21'
      go_wp2_with fail
      clear c21
      go_loopw [6, 7] (fun v6 v7 wy => ∃ (k : Nat) (d : Int), v6 = .int .i64 d ∧ v7 = .int .i64 (wayB back (N - 1) k) ∧ Hid (WayQ c back (N - 2) (N - 1) k d) ∧ Hid (OwnF wy g 3 N (fun k => .int .i64 (back k))) ∧ Hid (RTabA wy B tb N rb c) ∧ Hid (Below B w wy)) (fun _ v7 _ => rank (intOf v7).toNat)
      case atStart => exact ⟨0, _, rfl, by rw [← HN1.out]; rfl, HW0, HO, HT1, HB1⟩
      case round =>
        clear HW0 HO HT1 HB1
        obtain ⟨k, d, rfl, rfl, HWA, HO, HT, HB⟩ := hrel
        rename World => wy
        have hok := HWO.out k fun j hj => (HWA.out.1 j hj).1
        obtain ⟨a, ha⟩ : ∃ a, wayB back (N - 1) k = a := ⟨_, rfl⟩
        have HA := Lib.hid ha
        rw [ha] at hok
        obtain ⟨haN, hab⟩ := hok
        rw [ha]
        by_cases hat : a = N - 2
        · have hat' : (a : Int) = (N : Int) - 2 := by omega
          have hd0 : 0 < d := HWA.out.2
          have HA2 := Lib.hid hat
          clear ha hab haN hat
          go_wp2_with fail
          have HDL : Hid (∀ j, wayB back (N - 1) j ≠ N - 2 → j ≤ k → j < k ∧ d ≤ c (wayB back (N - 1) (j + 1)) (wayB back (N - 1) j)) := fun j h1 h2 => by
            have h3 : j < k := by
              rcases Nat.lt_or_ge j k with h4 | h4
              · exact h4
              · obtain rfl : j = k := by omega
                exact absurd (HA.out.trans HA2.out) h1
            exact ⟨h3, (HWA.out.1 j h3).2⟩
          have HW0 : Hid (Way N c (N - 2) (N - 1) back rank d c (wayB back (N - 1) 0)) := Way.start HL.out.nn hln1 HB21.out
          clear hat'
          go_loopw [8] (fun v8 wz => ∃ (j : Nat) (c2 : Tab), v8 = .int .i64 (wayB back (N - 1) j) ∧ j ≤ k ∧ Hid (Way N c (N - 2) (N - 1) back rank d c2 (wayB back (N - 1) j)) ∧ Hid (OwnF wz g 3 N (fun k => .int .i64 (back k))) ∧ Hid (RTabA wz B tb N rb c2) ∧ Hid (Below B w wz)) (fun v8 _ => rank (intOf v8).toNat)
          case atStart => exact ⟨0, c, by rw [← HN1.out]; rfl, Nat.zero_le _, HW0, HO, HT, HB⟩
          case round =>
            clear HW0 HO HT HB
            obtain ⟨j, c2, rfl, hjk, HWY, HO, HT, HB⟩ := hrel
            rename World => wz
            have haN := HWY.out.lt
            have hab := HWY.out.on
            obtain ⟨a2, ha⟩ : ∃ a, wayB back (N - 1) j = a := ⟨_, rfl⟩
            have HA3 := Lib.hid ha
            rw [ha] at haN hab
            rw [ha]
            by_cases hat : a2 = N - 2
            · have HLN : Hid (LeftF N c0 (N - 2) (N - 1) c2 (s + d)) := by
                have h1 := HWY.out
                rw [ha, hat] at h1
                exact HL.out.pushed h1
              have hsl2 := HLN.out.le_capN HBE.out
              have hat' : (a2 : Int) = (N : Int) - 2 := by omega
              clear ha hat hab haN
              go_wp2_with fail
              go_roundw
              case rel => exact ⟨s + d, c2, by go_num, HT, HLN, HB, by omega⟩
              case measure => simp [intOf]; omega
            · obtain ⟨hxb, hrx, hcx⟩ := HRK.out a2 haN hab hat
              obtain ⟨x, hx⟩ : ∃ x : Nat, back a2 = (x : Int) := ⟨(back a2).toNat, by omega⟩
              rw [hx, Int.toNat_natCast] at hxb hrx hcx
              have hxN : x < N := by have := (HBK.out.nn a2 haN).2; rw [hx] at this; omega
              have HWN : Hid (wayB back (N - 1) (j + 1) = x) := by show (back (wayB back (N - 1) j)).toNat = x; rw [HA3.out, hx, Int.toNat_natCast]
              obtain ⟨hj1, hdl⟩ := HDL.out j (by rw [HA3.out]; exact hat) hjk
              rw [HWN.out, HA3.out] at hdl
              have HWS : Hid (Way N c (N - 2) (N - 1) back rank d (push c2 x a2 d) x) := by
                have h1 := HWY.out
                rw [ha] at h1
                have h2 := h1.step (by rw [hx]; omega) (by omega) (by rw [hx, Int.toNat_natCast]; exact hdl) (by rw [hx, Int.toNat_natCast]; exact ⟨hxb, hrx⟩)
                rw [hx, Int.toNat_natCast] at h2
                exact h2
              have HBD : Hid (∀ x y, 0 ≤ c2 x y ∧ c2 x y ≤ 800000000) := fun x y => HWY.out.bd (fun x y => (HLC.out x y).2) x y
              have hb1 := HBD.out x a2
              have hb2 := HBD.out a2 x
              have hbc := HLC.out x a2
              have HX := Lib.hid hx
              have cg := HO.out.cell haN
              rw [hx] at cg
              have ca := HT.out.out.cell hxN
              have cb := (HT.out.row x hxN).cell haN
              have cf := (HT.out.row x hxN).frozen a2
              have hat' : ¬ (a2 : Int) = (N : Int) - 2 := by omega
              have hgx := HGN.out x hxN
              have hga := HGN.out a2 haN
              have e1 : IntKind.i64.wrap (c2 x a2 - d) = c2 x a2 - d := IntWalk.i64_in _ (by omega)
              clear ha hab hxb hx hat
              go_upto_region 14 with fail
              refine wp_region_quiet_tail 21 (by kernel_rfl) (by kernel_rfl) ?_
              simp only [List.take_succ_cons, List.take_zero, List.drop_succ_cons, List.drop_zero]
              repeat (go_big_quiet_step (fail))
              refine wpQuiet_nil ?_
              go_upto_region 15 with fail
              have HT2 : Hid (RTabA (wz.setCell ⟨rb x, a2, none⟩ (.int .i64 (c2 x a2 - d))).drew B tb N rb (upd c2 x a2 (c2 x a2 - d))) := (HT.out.put hxN a2 (c2 x a2 - d)).drewN 1
              have HO2 : Hid (OwnF (wz.setCell ⟨rb x, a2, none⟩ (.int .i64 (c2 x a2 - d))).drew g 3 N (fun k => .int .i64 (back k))) := (HO.out.far (p := ⟨rb x, a2, none⟩) hgx _).drewN 1
              have HB2 : Hid (Below B w (wz.setCell ⟨rb x, a2, none⟩ (.int .i64 (c2 x a2 - d))).drew) := (HB.out.setCell (p := ⟨rb x, a2, none⟩) (HT.out.br x hxN) _).drew
              generalize (wz.setCell ⟨rb x, a2, none⟩ (.int .i64 (c2 x a2 - d))).drew = wv at *
              clear cg ca cb cf e1 HO HT HB
              have cg := HO2.out.cell haN
              rw [show back a2 = (x : Int) from HX.out] at cg
              have ca := HT2.out.out.cell haN
              have cb := (HT2.out.row a2 haN).cell hxN
              have cf := (HT2.out.row a2 haN).frozen x
              have hax : ¬ (a2 = x ∧ x = a2) := fun h => by rw [h.1] at hrx; omega
              have hu : 0 ≤ upd c2 x a2 (c2 x a2 - d) a2 x ∧ upd c2 x a2 (c2 x a2 - d) a2 x ≤ 800000000 := by rw [upd_ne hax]; exact hb2
              obtain ⟨u, hu2⟩ : ∃ u, upd c2 x a2 (c2 x a2 - d) a2 x = u := ⟨_, rfl⟩
              have HU := Lib.hid hu2
              rw [hu2] at cb hu
              have e1 : IntKind.i64.wrap (u + d) = u + d := IntWalk.i64_in _ (by omega)
              clear hu2
              refine wp_region_quiet_tail 21 (by kernel_rfl) (by kernel_rfl) ?_
              simp only [List.take_succ_cons, List.take_zero, List.drop_succ_cons, List.drop_zero]
              repeat (go_big_quiet_step (fail))
              refine wpQuiet_nil ?_
              have HT3 : Hid (RTabA (wv.setCell ⟨rb a2, x, none⟩ (.int .i64 (u + d))).drew B tb N rb (push c2 x a2 d)) := by
                have h1 := (HT2.out.put haN x (u + d)).drewN 1
                rw [← HU.out] at h1 ⊢
                exact h1
              have HO3 : Hid (OwnF (wv.setCell ⟨rb a2, x, none⟩ (.int .i64 (u + d))).drew g 3 N (fun k => .int .i64 (back k))) := (HO2.out.far (p := ⟨rb a2, x, none⟩) hga _).drewN 1
              have HB3 : Hid (Below B w (wv.setCell ⟨rb a2, x, none⟩ (.int .i64 (u + d))).drew) := (HB2.out.setCell (p := ⟨rb a2, x, none⟩) (HT2.out.br a2 haN) _).drew
              have cg3 := HO3.out.cell haN
              rw [show back a2 = (x : Int) from HX.out] at cg3
              go_upto_region 13 with fail
              clear cg ca cb cf
              go_wp2_with fail
              go_roundw
              case rel => exact ⟨j + 1, push c2 x a2 d, by rw [HWN.out], hj1, by rw [HWN.out]; exact HWS.out, HO3, HT3, HB3⟩
              case measure => simpa [intOf] using hrx
        · obtain ⟨hxb, hrx, hcx⟩ := HRK.out a haN hab hat
          obtain ⟨x, hx⟩ : ∃ x : Nat, back a = (x : Int) := ⟨(back a).toNat, by omega⟩
          rw [hx, Int.toNat_natCast] at hxb hrx hcx
          have hxN : x < N := by have := (HBK.out.nn a haN).2; rw [hx] at this; omega
          have HWN : Hid (wayB back (N - 1) (k + 1) = x) := by show (back (wayB back (N - 1) k)).toNat = x; rw [HA.out, hx, Int.toNat_natCast]
          have cg := HO.out.cell haN
          rw [hx] at cg
          have ca := HT.out.out.cell hxN
          have cb := (HT.out.row x hxN).cell haN
          have hat' : ¬ (a : Int) = (N : Int) - 2 := by omega
          have hcb := HLC.out x a
          have HST : Hid (∀ d', d' ≤ c x a → d' ≤ d → 0 < d' → WayQ c back (N - 2) (N - 1) (k + 1) d') := fun d' q1 q2 q3 => HWA.out.step (by rw [HA.out]; exact hat) (by rw [HWN.out, HA.out]; exact q1) q2 q3
          have hdp : 0 < d := HWA.out.2
          clear ha hab hxb hx hat
          by_cases hcd : c x a < d
          · go_wp2_with fail
            go_roundw
            case rel => exact ⟨k + 1, c x a, rfl, by rw [HWN.out], HST.out _ (Int.le_refl _) (by omega) hcx, HO, HT, HB⟩
            case measure => simpa [intOf] using hrx
          · go_wp2_with fail
            go_roundw
            case rel => exact ⟨k + 1, d, rfl, by rw [HWN.out], HST.out _ (by omega) (Int.le_refl _) hdp, HO, HT, HB⟩
            case measure => simpa [intOf] using hrx
end Go.Proofs.Ytegclodchhcbaaa
