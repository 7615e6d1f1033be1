/- Walk: flow, the greatest flow in a net. -/
import Derived.Test.YtegclodchhcbaaaRe
namespace Go.Proofs.Ytegclodchhcbaaa
open Go.RowKit

/-- as before, but for one block -/
structure SameBut (w0 : World) (nb : Nat) (w : World) : Prop where
  os : w.os = w0.os
  tape : w.tape = w0.tape
  output : w.output = w0.output
  size : w0.heap.size ≤ w.heap.size
  block : ∀ b, b < w0.heap.size → b ≠ nb → w.heap[b]? = w0.heap[b]?
theorem SameBut.refl (w : World) (nb : Nat) : SameBut w nb w := ⟨rfl, rfl, rfl, Nat.le_refl _, fun _ _ _ => rfl⟩
theorem SameBut.later {w0 w w' : World} {nb : Nat} (h : SameBut w0 nb w) (hb : Below w.heap.size w w') : SameBut w0 nb w' :=
  ⟨hb.os.trans h.os, hb.tape.trans h.tape, hb.output.trans h.output, Nat.le_trans h.size hb.size, fun b h1 h2 => (hb.block b (Nat.lt_of_lt_of_le h1 h.size)).trans (h.block b h1 h2)⟩
theorem SameBut.put {w0 w : World} {nb : Nat} (h : SameBut w0 nb w) (i : Nat) (v : Value) : SameBut w0 nb (w.setCell ⟨nb, i, none⟩ v) := by
  have hb := (Below.refl nb w).setCell (p := ⟨nb, i, none⟩) (Nat.le_refl _) v
  exact ⟨hb.os.trans h.os, hb.tape.trans h.tape, hb.output.trans h.output, by have := h.size; simpa using this, fun b h1 h2 => (Below.heap_setCell w ⟨nb, i, none⟩ _ b h2).trans (h.block b h1 h2)⟩
theorem SameBut.drew {w0 w : World} {nb : Nat} (h : SameBut w0 nb w) : SameBut w0 nb w.drew := ⟨h.os, h.tape, h.output, h.size, h.block⟩
theorem SameBut.drewN {w0 w : World} {nb : Nat} (h : SameBut w0 nb w) (n : Nat) : SameBut w0 nb (w.drewN n) := ⟨h.os, h.tape, h.output, h.size, h.block⟩
theorem SameBut.below {w0 w : World} {nb B : Nat} (h : SameBut w0 nb w) (h1 : B ≤ nb) (h2 : B ≤ w0.heap.size) : Below B w0 w := ⟨h.os, h.tape, h.output, h.size, fun b hb => h.block b (by omega) (by omega)⟩
theorem bdrw {B : Nat} {a w : World} (h : Below B a w) (n : Nat) : Below B a (w.drewN n) := ⟨h.os, h.tape, h.output, h.size, h.block⟩
theorem TabA.drewN {w : World} {g : Nat} {c : Tab} (h : TabA w g c) (n : Nat) : TabA (w.drewN n) g c := h
theorem RowA.drewN {w : World} {g : Nat} {f : Nat → Int} (h : RowA w g f) (n : Nat) : RowA (w.drewN n) g f := h
/-- the places on the way back -/
def wayB (back : Nat → Int) (e : Nat) : Nat → Nat
  | 0 => e
  | k + 1 => (back (wayB back e k)).toNat
theorem wayB_ok {N : Nat} {c : Tab} {b e : Nat} {back : Nat → Int} (h : BackOk N c b back) (he : e < N) (h0 : 0 ≤ back e) : ∀ k, (∀ j, j < k → wayB back e j ≠ b) → wayB back e k < N ∧ 0 ≤ back (wayB back e k)
  | 0, _ => ⟨he, h0⟩
  | k + 1, hk => by
    obtain ⟨h1, h2⟩ := wayB_ok h he h0 k fun j hj => hk j (by omega)
    obtain ⟨rank, hr⟩ := h.from'
    have h3 := (hr _ h1 h2 (hk k (by omega))).1
    have h4 := h.nn _ h1
    exact ⟨by show (back (wayB back e k)).toNat < N; omega, h3⟩
def capSum (c : Tab) : Int := cutN 22 c (fun x => decide (x = 20))
theorem LeftF.le_sum {c0 c' : Tab} {s : Int} (h : LeftF 22 c0 20 21 c' s) : s ≤ capSum c0 := by
  have h1 := h.cut (fun x => decide (x = 20)) (by decide) (by decide)
  have h2 := cut_nn (N := 22) h.nn (fun x => decide (x = 20))
  unfold capSum
  omega
theorem LeftF.bd {N b e : Nat} {c0 c' : Tab} {s B : Int} (h : LeftF N c0 b e c' s) (hB : ∀ x y, c0 x y ≤ B) (x y : Nat) : 0 ≤ c' x y ∧ c' x y ≤ 2 * B := by
  have h1 := h.nn x y
  have h2 := h.nn y x
  have h3 := h.pair x y
  have h4 := hB x y
  have h5 := hB y x
  omega
theorem Way.bd {N b e : Nat} {c c' : Tab} {back : Nat → Int} {rank : Nat → Nat} {d B : Int} {at' : Nat} (h : Way N c b e back rank d c' at') (hB : ∀ x y, c x y ≤ B) (x y : Nat) : 0 ≤ c' x y ∧ c' x y ≤ 2 * B := by
  have h1 := h.nn x y
  have h2 := h.nn y x
  have h3 := h.pair x y
  have h4 := hB x y
  have h5 := hB y x
  omega
/-- the first k steps of the way back: the least of what can go on them -/
def WayA (c : Tab) (back : Nat → Int) (k : Nat) (d : Int) : Prop :=
  (∀ j, j < k → wayB back 21 j ≠ 20 ∧ d ≤ c (wayB back 21 (j + 1)) (wayB back 21 j)) ∧ (k = 0 → d = -1) ∧ (0 < k → 0 < d)
theorem WayA.step {c : Tab} {back : Nat → Int} {k : Nat} {d d' : Int} (h : WayA c back k d) (hne : wayB back 21 k ≠ 20) (h1 : d' ≤ c (wayB back 21 (k + 1)) (wayB back 21 k)) (h2 : 0 < k → d' ≤ d) (h3 : 0 < d') : WayA c back (k + 1) d' := by
  refine ⟨fun j hj => ?_, fun e => by omega, fun _ => h3⟩
  by_cases e : j = k
  · rw [e]; exact ⟨hne, h1⟩
  · have h4 := h.1 j (by omega)
    have h5 := h2 (by omega)
    exact ⟨h4.1, by omega⟩
set_option maxRecDepth 100000 in
set_option maxHeartbeats 8000000 in
theorem flow_any (nb : Nat) (c0 : Tab) (w : World) (h : TabA w nb c0) (hnn : ∀ x y, 0 ≤ c0 x y) (hle : ∀ x y, c0 x y ≤ 200000000) (hcs : capSum c0 ≤ 1000000000000) :
    Calls Try.prog 61 #[.pointer (some ⟨nb, 0, none⟩)] w fun e w' => ∃ sum c' R, e = .returned (.int .i64 sum) ∧ TabA w' nb c' ∧ LeftF 22 c0 20 21 c' sum ∧ Most 22 c0 20 21 sum R ∧ SameBut w nb w' := by
  have hnb := h.lt
  have HT := Lib.hid h
  have HNN := Lib.hid hnn
  have HLE := Lib.hid hle
  have HS0 := Lib.hid (SameBut.refl w nb)
  clear h hnn hle
  go_enter Try.func61, Try.ntmps61
  go_wp2_with fail
  go_loopw [2] (fun vs wr => ∃ (s : Int) (c : Tab), vs = .int .i64 s ∧ Hid (TabA wr nb c) ∧ Hid (LeftF 22 c0 20 21 c s) ∧ Hid (SameBut w nb wr) ∧ 0 ≤ s) (fun vs _ => (capSum c0 - intOf vs).toNat)
  case atStart => exact ⟨0, c0, rfl, HT, LeftF.refl HNN.out, HS0, Int.le_refl _⟩
  case round =>
    clear HT HS0
    obtain ⟨s, c, rfl, HT, HL, HS, hs0⟩ := hrel
    rename World => wr
    have hsl := HL.out.le_sum
    have hnw := HT.out.lt
    have HRC := Lib.hid (reach_any nb c 20 wr HT.out (by decide))
    go_upto_region 2 with (first
      | (go_at_call 67; refine HRC.out.mono ?_; rintro e w5 ⟨⟨C, back, rfl, hC, hBK⟩, hb5⟩; have HC := Lib.hid hC; have HBK := Lib.hid hBK; have HB5 := Lib.hid hb5; clear hC hBK hb5)
      | (refine wpList_store_row rfl 83 _ _ rfl w5.heap.size C rfl rfl 83 _ (heap_alloc_new w5 _) HC.out.sz (by rw [HC.out.1]; rfl) HC.out.one ?_; rw [World.setRow_alloc_new]))
    obtain ⟨W1, hW1⟩ : ∃ W1, w5.alloc (.cells C 83) = W1 := ⟨_, rfl⟩
    have hg1 : RowA W1 w5.heap.size back := by rw [← hW1]; exact ⟨C, heap_alloc_new w5 _, HC.out⟩
    have hgn : nb < w5.heap.size := by have := HB5.out.size; omega
    have HT1 : Hid (TabA W1 nb c) := (HT.out.keep (HB5.out.block nb hnw)).keep (by rw [← hW1]; exact Below.heap_alloc _ _ _ hgn)
    have HS1 : Hid (SameBut w nb W1) := by show SameBut w nb W1; rw [← hW1]; exact (HS.out.later HB5.out).later ((Below.refl _ _).alloc (Nat.le_refl _) _)
    have HG1 := Lib.hid hg1
    have hgn' : nb ≠ w5.heap.size := by omega
    rw [hW1]
    have c21 := hg1.cell (i := 21) (by decide)
    clear hW1 hg1 HT HS HRC HB5 hgn
    generalize w5.heap.size = g at *
    by_cases hb21 : back 21 < 0
    · go_wp2_with fail
      go_ret
      exact ⟨s, c, seen back, rfl, HT1.out, HL.out, HL.out.most HBK.out hb21, HS1.out⟩
    · have hb21' : 0 ≤ back 21 := by omega
      obtain ⟨rank, hrk⟩ := HBK.out.from'
      have HRK := Lib.hid hrk
      have HLC : Hid (∀ x y, 0 ≤ c x y ∧ c x y ≤ 400000000) := fun x y => HL.out.bd HLE.out x y
      have HWO : Hid (∀ k, (∀ j, j < k → wayB back 21 j ≠ 20) → wayB back 21 k < 22 ∧ 0 ≤ back (wayB back 21 k)) := wayB_ok HBK.out (by decide) hb21'
      have HW0 : Hid (WayA c back 0 (-1)) := ⟨fun j hj => absurd hj (Nat.not_lt_zero _), fun _ => rfl, fun h => absurd h (Nat.lt_irrefl _)⟩
      clear hrk
      go_wp2_with fail
      clear c21
      go_loopw [4, 5] (fun v4 v5 wy => ∃ (k : Nat) (d : Int), v4 = .int .i64 d ∧ v5 = .int .i64 (wayB back 21 k) ∧ Hid (WayA c back k d) ∧ Hid (RowA wy g back) ∧ Hid (TabA wy nb c) ∧ Hid (SameBut w nb wy)) (fun _ v5 _ => rank (intOf v5).toNat)
      case atStart => exact ⟨0, -1, rfl, rfl, HW0, HG1, HT1, HS1⟩
      case round =>
        clear HW0 HG1 HT1 HS1
        obtain ⟨k, d, rfl, rfl, HWA, HG, HT, HS⟩ := hrel
        rename World => wy
        have hok := HWO.out k fun j hj => (HWA.out.1 j hj).1
        obtain ⟨a, ha⟩ : ∃ a, wayB back 21 k = a := ⟨_, rfl⟩
        have HA := Lib.hid ha
        rw [ha] at hok
        obtain ⟨ha22, hab⟩ := hok
        rw [ha]
        by_cases hat : a = 20
        · subst hat
          rw [show ((20 : Nat) : Int) = (20 : Int) from rfl]
          go_wp2_with fail
          have hK0 : 0 < k := by
            rcases Nat.eq_zero_or_pos k with h0 | h0
            · have h9 := HA.out
              rw [h0] at h9
              exact absurd h9 (by show ¬ (21 : Nat) = 20; decide)
            · exact h0
          have hd0 : 0 < d := HWA.out.2.2 hK0
          have HDL : Hid (∀ j, wayB back 21 j ≠ 20 → j ≤ k → j < k ∧ d ≤ c (wayB back 21 (j + 1)) (wayB back 21 j)) := fun j h1 h2 => by
            have h3 : j < k := by
              rcases Nat.lt_or_ge j k with h4 | h4
              · exact h4
              · obtain rfl : j = k := by omega
                exact absurd HA.out h1
            exact ⟨h3, (HWA.out.1 j h3).2⟩
          have HW0 : Hid (Way 22 c 20 21 back rank d c (wayB back 21 0)) := Way.start HL.out.nn (by decide) hb21'
          clear ha hab ha22
          go_loopw [7] (fun v7 wz => ∃ (j : Nat) (c2 : Tab), v7 = .int .i64 (wayB back 21 j) ∧ j ≤ k ∧ Hid (Way 22 c 20 21 back rank d c2 (wayB back 21 j)) ∧ Hid (RowA wz g back) ∧ Hid (TabA wz nb c2) ∧ Hid (SameBut w nb wz)) (fun v7 _ => rank (intOf v7).toNat)
          case atStart => exact ⟨0, c, rfl, Nat.zero_le _, HW0, HG, HT, HS⟩
          case round =>
            clear HW0 HG HT HS
            obtain ⟨j, c2, rfl, hjk, HWY, HG, HT, HS⟩ := hrel
            rename World => wz
            have hal := HWY.out.lt
            have hab := HWY.out.on
            obtain ⟨a, ha⟩ : ∃ a, wayB back 21 j = a := ⟨_, rfl⟩
            have HA2 := Lib.hid ha
            rw [ha] at hal hab
            rw [ha]
            by_cases hat : a = 20
            · subst hat
              have HLN : Hid (LeftF 22 c0 20 21 c2 (s + d)) := by
                have h1 := HWY.out
                rw [ha] at h1
                exact HL.out.pushed h1
              have hsl2 := HLN.out.le_sum
              rw [show ((20 : Nat) : Int) = (20 : Int) from rfl]
              clear ha
              go_wp2_with fail
              go_roundw
              case rel => exact ⟨s + d, c2, by go_num, HT, HLN, HS, by omega⟩
              case measure => simp [intOf]; omega
            · obtain ⟨hxb, hrx, hcx⟩ := HRK.out a hal hab hat
              obtain ⟨x, hx⟩ : ∃ x : Nat, back a = (x : Int) := ⟨(back a).toNat, by omega⟩
              rw [hx, Int.toNat_natCast] at hxb hrx hcx
              have hx22 : x < 22 := by have := (HBK.out.nn a hal).2; rw [hx] at this; omega
              have HWN : Hid (wayB back 21 (j + 1) = x) := by show (back (wayB back 21 j)).toNat = x; rw [HA2.out, hx, Int.toNat_natCast]
              obtain ⟨hj1, hdl⟩ := HDL.out j (by rw [HA2.out]; exact hat) hjk
              rw [HWN.out, HA2.out] at hdl
              have HWS : Hid (Way 22 c 20 21 back rank d (push c2 x a d) x) := by
                have h1 := HWY.out
                rw [ha] at h1
                have h2 := h1.step (by rw [hx]; omega) (by omega) (by rw [hx, Int.toNat_natCast]; exact hdl) (by rw [hx, Int.toNat_natCast]; exact ⟨hxb, hrx⟩)
                rw [hx, Int.toNat_natCast] at h2
                exact h2
              have HBD : Hid (∀ x y, 0 ≤ c2 x y ∧ c2 x y ≤ 800000000) := fun x y => HWY.out.bd (fun x y => (HLC.out x y).2) x y
              have hb1 := HBD.out x a
              have hb2 := HBD.out a x
              have hbc := HLC.out x a
              have cg := HG.out.cell hal
              rw [hx] at cg
              have ct := HT.out.cell hx22 hal
              have cf := HT.out.fr (x * 22 + a)
              have hat' : ((a : Int) != 20) = true := by simp; omega
              have e1 : IntKind.i64.wrap (c2 x a - d) = c2 x a - d := IntWalk.i64_in _ (by omega)
              have HX := Lib.hid hx
              clear ha hxb hx hcx
              go_upto_region 14 with fail
              refine wp_region_quiet_tail 16 (by kernel_rfl) (by kernel_rfl) ?_
              simp only [List.take_succ_cons, List.take_zero, List.drop_succ_cons, List.drop_zero]
              repeat (go_big_quiet_step (fail))
              refine wpQuiet_nil ?_
              go_upto_region 15 with fail
              have HT2 : Hid (TabA (wz.setCell ⟨nb, x * 22 + a, none⟩ (.int .i64 (c2 x a - d))).drew nb (upd c2 x a (c2 x a - d))) := (HT.out.set hal (c2 x a - d)).drewN 1
              have HG2 : Hid (RowA (wz.setCell ⟨nb, x * 22 + a, none⟩ (.int .i64 (c2 x a - d))).drew g back) := (HG.out.keep (Below.heap_setCell wz ⟨nb, x * 22 + a, none⟩ _ g (by show g ≠ nb; omega))).drewN 1
              have HS2 : Hid (SameBut w nb (wz.setCell ⟨nb, x * 22 + a, none⟩ (.int .i64 (c2 x a - d))).drew) := (HS.out.put _ _).drew
              generalize (wz.setCell ⟨nb, x * 22 + a, none⟩ (.int .i64 (c2 x a - d))).drew = wv at *
              clear cg ct cf e1 HG HT HS
              have cg := HG2.out.cell hal
              rw [show back a = (x : Int) from HX.out] at cg
              have ct := HT2.out.cell hal hx22
              have cf := HT2.out.fr (a * 22 + x)
              have hax : ¬ (a = x ∧ x = a) := fun h => by rw [h.1] at hrx; omega
              have hu : 0 ≤ upd c2 x a (c2 x a - d) a x ∧ upd c2 x a (c2 x a - d) a x ≤ 800000000 := by rw [upd_ne hax]; exact hb2
              obtain ⟨u, hu2⟩ : ∃ u, upd c2 x a (c2 x a - d) a x = u := ⟨_, rfl⟩
              have HU := Lib.hid hu2
              rw [hu2] at ct hu
              have e1 : IntKind.i64.wrap (u + d) = u + d := IntWalk.i64_in _ (by omega)
              clear hu2
              refine wp_region_quiet_tail 16 (by kernel_rfl) (by kernel_rfl) ?_
              simp only [List.take_succ_cons, List.take_zero, List.drop_succ_cons, List.drop_zero]
              repeat (go_big_quiet_step (fail))
              refine wpQuiet_nil ?_
              have HT3 : Hid (TabA (wv.setCell ⟨nb, a * 22 + x, none⟩ (.int .i64 (u + d))).drew nb (push c2 x a d)) := by
                have h1 := (HT2.out.set (i := a) hx22 (u + d)).drewN 1
                rw [← HU.out] at h1 ⊢
                exact h1
              have HG3 : Hid (RowA (wv.setCell ⟨nb, a * 22 + x, none⟩ (.int .i64 (u + d))).drew g back) := (HG2.out.keep (Below.heap_setCell wv ⟨nb, a * 22 + x, none⟩ _ g (by show g ≠ nb; omega))).drewN 1
              have HS3 : Hid (SameBut w nb (wv.setCell ⟨nb, a * 22 + x, none⟩ (.int .i64 (u + d))).drew) := (HS2.out.put _ _).drew
              have cg3 := HG3.out.cell hal
              rw [show back a = (x : Int) from HX.out] at cg3
              go_upto_region 13 with fail
              clear cg ct cf
              go_wp2_with fail
              go_roundw
              case rel => exact ⟨j + 1, push c2 x a d, by rw [HWN.out], hj1, by rw [HWN.out]; exact HWS.out, HG3, HT3, HS3⟩
              case measure => simpa [intOf] using hrx
        · obtain ⟨hxb, hrx, hcx⟩ := HRK.out a ha22 hab hat
          obtain ⟨x, hx⟩ : ∃ x : Nat, back a = (x : Int) := ⟨(back a).toNat, by omega⟩
          rw [hx, Int.toNat_natCast] at hxb hrx hcx
          have hx22 : x < 22 := by have := (HBK.out.nn a ha22).2; rw [hx] at this; omega
          have HWN : Hid (wayB back 21 (k + 1) = x) := by show (back (wayB back 21 k)).toNat = x; rw [HA.out, hx, Int.toNat_natCast]
          have cg := HG.out.cell ha22
          rw [hx] at cg
          have ct := HT.out.cell hx22 ha22
          have hat' : ((a : Int) != 20) = true := by simp; omega
          have hcb := HLC.out x a
          clear ha hab hxb hx
          go_wp2_with fail
          go_quiet (fail)
          have HG2 := Lib.hid (HG.out.drewN nq)
          have HT2 := Lib.hid (HT.out.drewN nq)
          have HS2 := Lib.hid (HS.out.drewN nq)
          have cg2 : (wy.drewN nq).cell? ⟨g, a, none⟩ = some (.int .i64 x) := cg
          generalize wy.drewN nq = w2 at *
          clear cg ct HG HT HS
          have HST : Hid (∀ d', d' ≤ c x a → (0 < k → d' ≤ d) → 0 < d' → WayA c back (k + 1) d') := fun d' q1 q2 q3 => HWA.out.step (by rw [HA.out]; exact hat) (by rw [HWN.out, HA.out]; exact q1) q2 q3
          by_cases hd : d < 0
          · have hk0 : ¬ 0 < k := fun h => by have := HWA.out.2.2 h; omega
            go_wp2_with fail
            go_roundw
            case rel => exact ⟨k + 1, c x a, rfl, by rw [HWN.out], HST.out _ (Int.le_refl _) (fun h => absurd h hk0) hcx, HG2, HT2, HS2⟩
            case measure => simpa [intOf] using hrx
          · have hkp : 0 < d := by
              rcases Nat.eq_zero_or_pos k with h0 | h0
              · have := HWA.out.2.1 h0; omega
              · exact HWA.out.2.2 h0
            by_cases hcd : c x a < d
            · go_wp2_with fail
              go_roundw
              case rel => exact ⟨k + 1, c x a, rfl, by rw [HWN.out], HST.out _ (Int.le_refl _) (fun _ => by omega) hcx, HG2, HT2, HS2⟩
              case measure => simpa [intOf] using hrx
            · go_wp2_with fail
              go_roundw
              case rel => exact ⟨k + 1, d, rfl, by rw [HWN.out], HST.out _ (by omega) (fun _ => Int.le_refl _) hkp, HG2, HT2, HS2⟩
              case measure => simpa [intOf] using hrx
end Go.Proofs.Ytegclodchhcbaaa
