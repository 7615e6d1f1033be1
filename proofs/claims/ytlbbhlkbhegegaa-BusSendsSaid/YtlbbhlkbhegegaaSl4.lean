/- Walks: ignitionref04.free, CheckSlots. -/
import Derived.Test.YtlbbhlkbhegegaaSl3
import Derived.Test.YtlbbhlkbhegegaaQb
namespace Go.Proofs.Ytlbbhlkbhegegaa
open Go.RowKit

theorem minI_comm (a b : Int) : minI a b = minI b a := by unfold minI; split <;> split <;> omega
theorem clashB_comm (a b x y : MGate) : clashB a b x y = clashB b a y x := by
  unfold clashB
  rw [minI_comm a.delay b.delay, Bool.beq_comm (a := x.rate), Bool.beq_comm (a := x.delay % minI b.delay a.delay), bne_comm (a := a.rate)]
theorem pairOk_of {m l : List MGate} {i k : Nat} {a b x y : MGate} (ha : pairAt m k = a) (hb : pairAt m i = b) (hx : pairAt l k = x) (hy : pairAt l i = y) : pairOk m l i k = !clashB a b x y := by
  unfold pairOk; rw [ha, hb, hx, hy, clashB_comm]

set_option maxRecDepth 100000 in
set_option maxHeartbeats 2000000 in
theorem rfree_b (S C : Int) (A L : Option Addr) (cap lcap : Nat) (m l : List MGate) (i : Nat) (w : World) (h : GatesA w w.heap.size A m) (hG : GatesA w w.heap.size L l) (hil : i < l.length) (hlm : l.length ≤ m.length) (hm : m.length ≤ 60)
    (hp : ∀ j, j < l.length → (1 ≤ (pairAt m j).delay ∧ (pairAt m j).delay ≤ 64) ∧ 0 ≤ (pairAt l j).delay ∧ (pairAt l j).delay ≤ 64) {r : Bool} (hr : rowOk m l i = r) :
    Calls Try.prog 75 #[.agg #[.int .i64 S, .int .i64 C, .slice A m.length cap], .slice L (i + 1) lcap] w fun e w' => e = .returned (.bool r) ∧ Below w.heap.size w w' := by
  have hE := SEnv.make (S := S) (C := C) (cap := cap) (t := 54) h
  have HP := Lib.hid hp
  have HR := Lib.hid hr
  have hll1 : l.length ≤ m.length := by omega
  clear h hp hr hlm
  go_enter Try.func75, Try.ntmps75
  go_wp2_with fail
  have hG1 : GatesA (w.alloc (.cells #[.int .i64 S, .int .i64 C, .slice A m.length cap] 54)) w.heap.size L l := hG.below hE.old (Nat.le_refl _)
  generalize hW : w.alloc (.cells #[.int .i64 S, .int .i64 C, .slice A m.length cap] 54) = w1 at *
  clear hW hG
  go_loopw [4, 6] (fun v q wr => v = .bool false ∧ ∃ k : Nat, k ≤ i ∧ q = .int .i64 k ∧ Hid (∀ j, j < k → pairOk m l i j = true) ∧ Below w1.heap.size w1 wr) (fun _ q _ => i - (intOf q).toNat)
  case atStart => exact ⟨rfl, 0, Nat.zero_le _, rfl, fun j h => by omega, Below.refl _ _⟩
  case round =>
    obtain ⟨rfl, k, hk, rfl, HI, hbw⟩ := hrel
    have hEr := hE.below hbw hE.size
    have hsz := hbw.size
    have hbx := hE.size
    by_cases hlt : k < i
    · have hGr := hG1.below (hbw.mono (B' := w.heap.size) (Nat.le_of_lt hE.size)) (Nat.le_refl _)
      obtain ⟨x, b, off, hx, rfl, hb, c0, c1⟩ := hGr.at_ (k := k) (by omega)
      obtain ⟨y, b2, off2, hy, he2, hb2, d0, d1⟩ := hGr.at_ hil
      injection he2 with he2
      injection he2 with he21 he22
      subst he21
      subst he22
      obtain ⟨a, b3, off3, ha, rfl, hb3, e0, e1⟩ := hEr.msgs.at_ (show k < m.length by omega)
      obtain ⟨c, b4, off4, hc, he4, hb4, f0, f1⟩ := hEr.msgs.at_ (show i < m.length by omega)
      injection he4 with he4
      injection he4 with he41 he42
      subst he41
      subst he42
      have HX := Lib.hid (pairAt_of hx)
      have HY := Lib.hid (pairAt_of hy)
      have HA := Lib.hid (pairAt_of ha)
      have HC := Lib.hid (pairAt_of hc)
      have hpk := HP.out k (by omega)
      have hpi := HP.out i hil
      rw [HX.out, HA.out] at hpk
      rw [HY.out, HC.out] at hpi
      have q2 := hEr.c2
      have HPO := Lib.hid (pairOk_of HA.out HC.out HX.out HY.out)
      have hkm : (k : Int) < (m.length : Int) := by omega
      have him : (i : Int) < (m.length : Int) := by omega
      have hki : (k : Int) < (i : Int) + 1 := by omega
      have hi1 : (i : Int) < (i : Int) + 1 := by omega
      clear hx hy ha hc hEr hGr
      have m0 := BW.cell (B := wr.heap.size) (show b < wr.heap.size by omega) c0
      have m1 := BW.cell (B := wr.heap.size) (show b < wr.heap.size by omega) c1
      have m2 := BW.cell (B := wr.heap.size) (show b < wr.heap.size by omega) d0
      have m3 := BW.cell (B := wr.heap.size) (show b < wr.heap.size by omega) d1
      have m4 := BW.cell (B := wr.heap.size) (show b3 < wr.heap.size by omega) e0
      have m5 := BW.cell (B := wr.heap.size) (show b3 < wr.heap.size by omega) e1
      have m6 := BW.cell (B := wr.heap.size) (show b3 < wr.heap.size by omega) f0
      have m7 := BW.cell (B := wr.heap.size) (show b3 < wr.heap.size by omega) f1
      have m8 := BW.cell (B := wr.heap.size) (show w.heap.size < wr.heap.size by omega) q2
      clear c0 c1 d0 d1 e0 e1 f0 f1 q2
      rcases hcl : clashB a c x y
      all_goals
        have HCL := Lib.hid hcl
        have HCA : Hid (∀ s : BW wr.heap.size wr, Calls Try.prog 107 #[pairV a, pairV c, pairV x, pairV y] s.1 fun e w' => e = .returned (.bool _) ∧ Below s.1.heap.size s.1 w') := fun s => rclash_b a c x y s.1 hpk.1 hpi.1 hpk.2 hpi.2 hcl
        clear hcl
        go_wp2_with fail
        refine wp_region_below wr.heap.size wr (Below.refl _ _) (by kernel_rfl) (by kernel_rfl) ?_
        repeat (go_big_quiet_step ((go_at_call 107; exact quiet_below (Nat.le_refl _) (HCA.out _))))
        refine wpQuiet_nil ?_
        clear m0 m1 m2 m3 m4 m5 m6 m7 m8 HCA
        intro s
        have hbs := hbw.trans (s.2.mono hsz)
        generalize s.1 = w6 at *
        go_wp2_with fail
      · go_roundw
        case rel => exact ⟨rfl, k + 1, by omega, by go_num, nat_snoc HI.out (by rw [HPO.out, HCL.out]; rfl), hbs⟩
        case measure => simp [intOf]; omega
      · go_ret
        exact ⟨ret_b (by rw [← HR.out]; exact (range_no hlt (by rw [HPO.out, HCL.out]; rfl)).symm), hE.old.trans (hbs.mono (Nat.le_of_lt hE.size))⟩
    · obtain rfl : k = i := by omega
      clear hEr
      go_wp2_with fail
      go_ret
      exact ⟨ret_b (by rw [← HR.out]; exact (range_yes HI.out).symm), hE.old.trans (hbw.mono (Nat.le_of_lt hE.size))⟩

set_option maxRecDepth 100000 in
set_option maxHeartbeats 2000000 in
theorem rcheckSlots_any (S C : Int) (A L : Option Addr) (cap lcap : Nat) (m l : List MGate) (w : World) (h : GatesA w w.heap.size A m) (hm : m.length ≤ maxLen) (hG : GatesA w w.heap.size L l) (hlm : l.length ≤ maxLen) (hlc : l.length ≤ lcap) :
    Calls Try.prog 34 #[.agg #[.int .i64 S, .int .i64 C, .slice A m.length cap], .slice L l.length lcap] w fun e w' => e = .returned (.int .i64 (slotsS S C m l)) ∧ Below w.heap.size w w' := by
  have hE := SEnv.make (S := S) (C := C) (cap := cap) (t := 54) h
  have hm' := hm
  have hlm' := hlm
  unfold maxLen at hm' hlm'
  clear h
  have HC : Hid (∀ w1, Below (w.heap.size + 1) (w.alloc (.cells #[.int .i64 S, .int .i64 C, .slice A m.length cap] 54)) w1 → Calls Try.prog 74 #[.agg #[.int .i64 S, .int .i64 C, .slice A m.length cap]] w1 fun e w' => e = .returned (.int .i64 (slottedE S C m)) ∧ Below w1.heap.size w1 w') := fun w1 hb => rslotted_any S C A cap m w1 ((hE.below hb (by omega)).msgs.more (by have := (hE.below hb (by omega)).size; omega)) hm
  rcases hv : slottedB S C m
  · have HZ := Lib.hid (slots_43 (l := l) hv)
    rw [slotted_no hv] at HC
    clear hv
    go_enter Try.func34, Try.ntmps34
    go_wp2_with (go_at_call 74; refine (HC.out _ (Below.refl _ _)).mono ?_; rintro e w2 ⟨rfl, hb2⟩)
    go_ret
    exact ⟨ret_i HZ.out.symm, hE.old.trans (hb2.mono (by simp))⟩
  rw [slotted_yes hv] at HC
  have HV := Lib.hid hv
  have hpt := slotted_parts hv
  have hS := hpt.1
  have hCC := hpt.2.1
  have hm60 := hpt.2.2.1
  have HPT := Lib.hid hpt.2.2.2
  clear hv hpt
  by_cases hll : l.length = m.length
  rotate_left
  · have HZ := Lib.hid (slots_1 HV.out hll)
    have hl0 : ((l.length : Int) != (m.length : Int)) = true := by rw [bne_iff_ne]; omega
    clear hll
    go_enter Try.func34, Try.ntmps34
    go_wp2_with (go_at_call 74; refine (HC.out _ (Below.refl _ _)).mono ?_; rintro e w2 ⟨rfl, hb2⟩; have q2 := (hE.below hb2 (by simp)).c2)
    go_ret
    exact ⟨ret_i HZ.out.symm, hE.old.trans (hb2.mono (by simp))⟩
  have HLL := Lib.hid hll
  have hl0 : ((l.length : Int) != (m.length : Int)) = false := by rw [bne_eq_false_iff_eq]; omega
  have hll1 : l.length ≤ m.length := by omega
  have hll2 : m.length ≤ l.length := by omega
  clear hll
  go_enter Try.func34, Try.ntmps34
  go_wp2_with (go_at_call 74; refine (HC.out _ (Below.refl _ _)).mono ?_; rintro e w2 ⟨rfl, hb2⟩; have q2 := (hE.below hb2 (by simp)).c2)
  have hE2 := hE.below hb2 (by simp)
  have hG2 : GatesA w2 w.heap.size L l := hG.below hE2.old (Nat.le_refl _)
  clear hE hb2 q2 HC hG
  go_loopw [4, 6] (fun v i wr => v = .int .i64 0 ∧ ∃ k : Nat, k ≤ l.length ∧ i = .int .i64 k ∧ Hid (∀ j, j < k → rangeOk S m l j = true) ∧ Below w2.heap.size w2 wr) (fun _ i _ => l.length - (intOf i).toNat)
  case atStart => exact ⟨rfl, 0, Nat.zero_le _, rfl, fun j h => by omega, Below.refl _ _⟩
  case round =>
    obtain ⟨rfl, k, hk, rfl, HI, hbw⟩ := hrel
    have hEr := hE2.below hbw hE2.size
    by_cases hlt : k < l.length
    · obtain ⟨x, b, off, hx, rfl, hb, c0, c1⟩ := (hG2.below (hbw.mono (B' := w.heap.size) (Nat.le_of_lt hE2.size)) (Nat.le_refl _)).at_ hlt
      have HX := Lib.hid (pairAt_of hx)
      obtain ⟨a, b', off', ha, rfl, hb', d0, d1⟩ := hEr.msgs.at_ (show k < m.length by omega)
      have HA := Lib.hid (pairAt_of ha)
      have hap := HPT.out k a ha
      have q0 := hEr.c0
      have q2 := hEr.c2
      have hkm : (k : Int) < (m.length : Int) := by omega
      clear hx ha hEr
      go_wp2_with fail
      have e0 : IntKind.i64.wrap (S - 1) = S - 1 := IntWalk.i64_in _ (by omega)
      have e1 : IntKind.i64.wrap (a.delay - 1) = a.delay - 1 := IntWalk.i64_in _ (by omega)
      rcases h4 : inB x.rate 0 (S - 1)
      · have H4 := Lib.hid h4
        clear h4
        go_quiet ((go_at_call 64; exact quiet_w (rwithin_b _ _ _ _ _ H4.out)))
        clear e0 e1
        go_wp2_with fail
        go_ret
        exact ⟨ret_i (slots_1' HV.out HLL.out hlt (by unfold rangeOk; rw [HX.out, H4.out]; rfl)).symm, hE2.old.trans ((bdrew' hbw _).mono (Nat.le_of_lt hE2.size))⟩
      · have H4 := Lib.hid h4
        clear h4
        rcases h5 : inB x.delay 0 (a.delay - 1)
        all_goals
          have H5 := Lib.hid h5
          clear h5
          go_quiet (first | (go_at_call 64; (with_reducible exact quiet_w (rwithin_b x.rate _ _ _ _ H4.out))) | (go_at_call 64; (with_reducible exact quiet_w (rwithin_b x.delay _ _ _ _ H5.out))))
          clear e0 e1
          go_wp2_with fail
        · go_ret
          exact ⟨ret_i (slots_1' HV.out HLL.out hlt (by unfold rangeOk; rw [HX.out, HA.out, H5.out]; simp)).symm, hE2.old.trans ((bdrew' hbw _).mono (Nat.le_of_lt hE2.size))⟩
        · go_roundw
          case rel => exact ⟨rfl, k + 1, by omega, by go_num, nat_snoc HI.out (by unfold rangeOk; rw [HX.out, HA.out, H4.out, H5.out]; rfl), bdrew' hbw _⟩
          case measure => simp [intOf]; omega
    · obtain rfl : k = l.length := by omega
      have HRG := Lib.hid HI.out
      clear HI hEr
      have HPR : Hid (∀ j, j < l.length → (1 ≤ (pairAt m j).delay ∧ (pairAt m j).delay ≤ 64) ∧ 0 ≤ (pairAt l j).delay ∧ (pairAt l j).delay ≤ 64) := fun j hj => by
        have h1 := HRG.out j hj
        have hjm : j < m.length := by omega
        have h2 := HPT.out j m[j] (List.getElem?_eq_getElem hjm)
        rw [← pairAt_of (List.getElem?_eq_getElem hjm)] at h2
        unfold rangeOk at h1
        rw [Bool.and_eq_true, inB_iff, inB_iff] at h1
        omega
      go_wp2_with fail
      obtain ⟨wo, rfl⟩ : ∃ wo : World, wo = wr := ⟨_, rfl⟩
      go_loopw [4, 7] (fun v i wr => v = .int .i64 0 ∧ ∃ k : Nat, k ≤ l.length ∧ i = .int .i64 k ∧ Hid (∀ j, j < k → rowOk m l j = true) ∧ Below w2.heap.size w2 wr) (fun _ i _ => l.length - (intOf i).toNat)
      case atStart => exact ⟨rfl, 0, Nat.zero_le _, rfl, fun j h => by omega, hbw⟩
      case round =>
        clear hbw
        obtain ⟨rfl, k, hk, rfl, HI, hbw⟩ := hrel
        have hEr := hE2.below hbw hE2.size
        have hsz := hbw.size
        have hbx := hEr.size
        by_cases hlt : k < l.length
        · have hGr := hG2.below (hbw.mono (B' := w.heap.size) (Nat.le_of_lt hE2.size)) (Nat.le_refl _)
          have m0 := BW.cell (B := wr.heap.size) hbx hEr.c0
          have m1 := BW.cell (B := wr.heap.size) hbx hEr.c1
          have m2 := BW.cell (B := wr.heap.size) hbx hEr.c2
          rcases hro : rowOk m l k
          all_goals
            have HRO := Lib.hid hro
            have HFR : Hid (∀ s : BW wr.heap.size wr, Calls Try.prog 75 #[.agg #[.int .i64 S, .int .i64 C, .slice A m.length cap], .slice L (k + 1) lcap] s.1 fun e w' => e = .returned (.bool _) ∧ Below s.1.heap.size s.1 w') := fun s => rfree_b S C A L cap lcap m l k s.1 ((hEr.msgs.below (s.2.mono (B' := w.heap.size) (Nat.le_of_lt hbx)) (Nat.le_refl _)).more (by have := s.2.size; omega)) ((hGr.below (s.2.mono (B' := w.heap.size) (Nat.le_of_lt hbx)) (Nat.le_refl _)).more (by have := s.2.size; omega)) hlt (Nat.le_of_eq HLL.out) hm60 HPR.out hro
            clear hro hEr hGr
            have e0 : IntKind.i64.wrap ((k : Int) + 1) = (k : Int) + 1 := IntWalk.i64_in _ (by omega)
            have e1 : ((k : Int) + 1).toNat = k + 1 := by omega
            have e2 : (0 : Int) ≤ (k : Int) + 1 := by omega
            have e3 : (k : Int) + 1 ≤ (lcap : Int) := by omega
            go_wp2_with fail
            refine wp_region_below wr.heap.size wr (Below.refl _ _) (by kernel_rfl) (by kernel_rfl) ?_
            repeat (go_big_quiet_step ((go_at_call 75; exact quiet_below (Nat.le_refl _) (HFR.out _))))
            refine wpQuiet_nil ?_
            clear m0 m1 m2 HFR e0 e1 e2 e3
            intro s
            have hbs := hbw.trans (s.2.mono hsz)
            generalize s.1 = w6 at *
            go_wp2_with fail
          · go_ret
            exact ⟨ret_i (by
              obtain ⟨q, hq, hqk⟩ : ∃ q, q < k ∧ pairOk m l k q = false := by
                have h1 := HRO.out
                unfold rowOk at h1
                rw [List.all_eq_false] at h1
                obtain ⟨q, hq, hqq⟩ := h1
                exact ⟨q, List.mem_range.1 hq, by simpa using hqq⟩
              exact (slots_44 HV.out HLL.out HRG.out hlt hq hqk).symm), hE2.old.trans (hbs.mono (Nat.le_of_lt hE2.size))⟩
          · go_roundw
            case rel => exact ⟨rfl, k + 1, by omega, by go_num, nat_snoc HI.out HRO.out, hbs⟩
            case measure => simp [intOf]; omega
        · obtain rfl : k = l.length := by omega
          have HP : Hid (slotsS S C m l = 0) := slots_0 HV.out HLL.out HRG.out HI.out
          clear hEr
          go_wp2_with fail
          go_ret
          exact ⟨ret_i HP.out.symm, hE2.old.trans (hbw.mono (Nat.le_of_lt hE2.size))⟩
end Go.Proofs.Ytlbbhlkbhegegaa
