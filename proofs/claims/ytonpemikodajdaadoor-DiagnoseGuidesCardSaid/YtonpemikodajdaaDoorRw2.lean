/- Walks: diagnose.right. -/
import Derived.Test.YtonpemikodajdaaDoorRw1
import Derived.Test.YtonpemikodajdaaDoorGu
namespace Go.Proofs.YtonpemikodajdaaDoor
open Go.RowKit

theorem below_drewN {B : Nat} {w w' : World} (h : Below B w w') (n : Nat) : Below B w (w'.drewN n) := ⟨h.os, h.tape, h.output, h.size, h.block⟩
set_option maxRecDepth 100000 in
set_option maxHeartbeats 8000000 in
theorem right_any (A1 A2 : Option Addr) (c1 c2 : Nat) (c : MCase) (A : Option Addr) (cap : Nat) (F : List MFork) (w : World) (h : CaseA w w.heap.size A1 A2 c) (hT : TabW w) (hc : caseB c = true) (hF : ForksA w w.heap.size A F) {r : Bool} (hr : rightB c F = r) :
    Calls Tryd.prog 76 #[.agg #[.slice A1 c.weights.length c1, .slice A2 c.tests.length c2], .slice A F.length cap] w fun e w' => e = .returned (.bool r) ∧ Below w.heap.size w w' := by
  have hb1 : Below w.heap.size w (w.alloc (.cells #[.slice A1 c.weights.length c1, .slice A2 c.tests.length c2] 36)) := (Below.refl _ _).alloc (Nat.le_refl _) _
  have hsz : (w.alloc (.cells #[.slice A1 c.weights.length c1, .slice A2 c.tests.length c2] 36)).heap.size = w.heap.size + 1 := by simp
  have HR := Lib.hid hr
  have HOK := Lib.hid (caseOk hc)
  have HCB := Lib.hid hc
  have hfl := hF.1
  unfold maxLen at hfl
  clear hr hc
  by_cases hN : 1 ≤ F.length ∧ F.length ≤ 5000
  rotate_left
  · have HNO := Lib.hid (right_far (c := c) hN)
    have HIN : Hid (inB (F.length : Int) 1 5000 = false) := by
      show _ = _
      rcases hh : inB (F.length : Int) 1 5000
      · rfl
      · have := inB_iff'.1 hh
        omega
    clear hN
    go_enter Tryd.func76, Tryd.ntmps76
    go_wp2_with (go_at_call 66; refine (within_b _ _ _ _ _ HIN.out).mono ?_; rintro e w' ⟨rfl, rfl⟩)
    go_ret
    exact ⟨ret_b (by rw [← HR.out, HNO.out]), hb1⟩
  · have HIN : Hid (inB (F.length : Int) 1 5000 = true) := inB_iff'.2 (by omega)
    have n0 := newcell w #[.slice A1 c.weights.length c1, .slice A2 c.tests.length c2] 36 0
    have n1 := newcell w #[.slice A1 c.weights.length c1, .slice A2 c.tests.length c2] 36 1
    simp only [List.getElem?_toArray, List.getElem?_cons_succ, List.getElem?_cons_zero] at n0 n1
    have HC : Hid (∀ wx, Below (w.heap.size + 1) (w.alloc (.cells #[.slice A1 c.weights.length c1, .slice A2 c.tests.length c2] 36)) wx → CaseA wx wx.heap.size A1 A2 c ∧ TabW wx ∧ ForksA wx w.heap.size A F) := fun wx hb => ⟨(h.keep (hb1.trans (hb.mono (by omega)))).more (by have := hb.size; omega), hT.keep (hb1.trans (hb.mono (by omega))), hF.keep (hb1.trans (hb.mono (by omega)))⟩
    have HNN : Hid (∀ wx, Below (w.heap.size + 1) (w.alloc (.cells #[.slice A1 c.weights.length c1, .slice A2 c.tests.length c2] 36)) wx → wx.cell? ⟨w.heap.size, 0, none⟩ = some (.slice A1 c.weights.length c1) ∧ wx.cell? ⟨w.heap.size, 1, none⟩ = some (.slice A2 c.tests.length c2)) := fun wx hb => ⟨(bcell hb _ _ (by omega)).trans n0, (bcell hb _ _ (by omega)).trans n1⟩
    clear h hT hF n0 n1
    have hn5 : F.length ≤ 5000 := hN.2
    have hn1 : 1 ≤ F.length := hN.1
    clear hN
    obtain ⟨fs, hfs⟩ : ∃ fs, fullS c = fs := ⟨_, rfl⟩
    have HFS := Lib.hid hfs
    obtain ⟨p0, p1⟩ := HNN.out _ (Below.refl _ _)
    clear hfs
    go_enter Tryd.func76, Tryd.ntmps76
    go_wp2_with (first | (go_at_call 66; refine (within_b _ _ _ _ _ HIN.out).mono ?_; rintro e w' ⟨rfl, rfl⟩) | (at_make; refine mk_masks _ rfl _ _ rfl F.length rfl rfl (by omega) ?_; intro w2 hO2 hb2; rw [hsz] at hO2 hb2; have HO2 : Hid (SetsF w2 (w.heap.size + 1) F.length (fun _ => 0)) := hO2; have HB2 := Lib.hid hb2; clear hO2 hb2; obtain ⟨r0, r1⟩ := HNN.out w2 HB2.out) | (go_at_call 58; refine (everyone_any A1 A2 c1 c2 c w2 HOK.out.n2 HFS.out).mono ?_; rintro e w3 ⟨rfl, hb3⟩; have HO3 := Lib.hid (HO2.out.below hb3 HO2.out.lt); have HB3 : Hid (Below (w.heap.size + 1) (w.alloc (.cells #[.slice A1 c.weights.length c1, .slice A2 c.tests.length c2] 36)) w3) := HB2.out.trans (hb3.mono (by have := HO2.out.lt; omega)); clear hb3; have f3 := OwnF.frozen HO3.out 0; have k3 := OwnF.cell HO3.out (j := 0) (by omega)))
    have HO4 : Hid (SetsF (w3.setCell ⟨w.heap.size + 1, 0, none⟩ (.int .u64 fs)) (w.heap.size + 1) F.length (root0 c)) := by
      have e : updN (fun _ => 0) 0 fs = root0 c := by
        funext j
        unfold updN root0
        rw [HFS.out]
      rw [← e]
      exact HO3.out.put 0 fs
    have HB4 : Hid (Below (w.heap.size + 1) (w.alloc (.cells #[.slice A1 c.weights.length c1, .slice A2 c.tests.length c2] 36)) (w3.setCell ⟨w.heap.size + 1, 0, none⟩ (.int .u64 fs))) := HB3.out.setCell (p := ⟨w.heap.size + 1, 0, none⟩) (Nat.le_refl _) _
    clear p0 p1 r0 r1 f3 k3 HB2 HO2 HB3 HO3
    generalize w3.setCell ⟨w.heap.size + 1, 0, none⟩ (.int .u64 fs) = w4 at *
    go_loopw [27] (fun vi wr => ∃ (k : Nat) (S : NN), k ≤ F.length ∧ vi = .int .i64 k ∧ Hid (pTo c F k = some S) ∧ Hid (SetsF wr (w.heap.size + 1) F.length S) ∧ Hid (Below (w.heap.size + 1) (w.alloc (.cells #[.slice A1 c.weights.length c1, .slice A2 c.tests.length c2] 36)) wr)) (fun vi _ => F.length - (intOf vi).toNat)
    case atStart => exact ⟨0, root0 c, Nat.zero_le _, rfl, rfl, HO4.out, HB4.out⟩
    case round =>
      clear HO4 HB4
      obtain ⟨k, S, hk, rfl, HS, HO, HB⟩ := hrel
      rename World => wr
      have hgl := OwnF.lt HO.out
      by_cases hlt : k < F.length
      rotate_left
      · obtain rfl : k = F.length := by omega
        go_wp2_with fail
        go_ret
        exact ⟨ret_b (by rw [← HR.out]; exact (right_yes hn1 hn5 HS.out).symm), hb1.trans (HB.out.mono (by omega))⟩
      · obtain ⟨fb, fo, An, cn, As, cs, rfl, hfb, t0, t1, t2, hcn, hIn, hcs, hIs⟩ := (HC.out wr HB.out).2.2.at_ hlt
        obtain ⟨tv, htv⟩ : ∃ x, (fk F k).test = x := ⟨_, rfl⟩
        obtain ⟨nl, hnl⟩ : ∃ x, (fk F k).next = x := ⟨_, rfl⟩
        obtain ⟨sl, hsl⟩ : ∃ x, (fk F k).set = x := ⟨_, rfl⟩
        obtain ⟨s, hs⟩ : ∃ x, S k = x := ⟨_, rfl⟩
        have o0 := OwnF.cell HO.out hlt
        have hs2 : s < 2 ^ c.weights.length := by rw [← hs]; exact pTo_lt HOK.out.n2 HS.out k
        have hs12 : s < 4096 := pow12 HOK.out.n2 hs2
        rw [htv] at t0
        rw [hnl] at t1 hcn hIn
        rw [hsl] at t2 hcs hIs
        rw [hs] at o0
        have HTV := Lib.hid htv
        have HNL := Lib.hid hnl
        have HSL := Lib.hid hsl
        have HSV := Lib.hid hs
        have hnlen := hIn.1
        have hslen := hIs.1
        unfold maxLen at hnlen hslen
        have HIN' := Lib.hid hIn
        have HIS' := Lib.hid hIs
        have HS2 := Lib.hid hs2
        have q0 := newcell wr #[.int .i64 tv, .slice An nl.length cn, .slice As sl.length cs] 110 0
        have q1 := newcell wr #[.int .i64 tv, .slice An nl.length cn, .slice As sl.length cs] 110 1
        have q2 := newcell wr #[.int .i64 tv, .slice An nl.length cn, .slice As sl.length cs] 110 2
        simp only [List.getElem?_toArray, List.getElem?_cons_succ, List.getElem?_cons_zero] at q0 q1 q2
        have o1 : (wr.alloc (.cells #[.int .i64 tv, .slice An nl.length cn, .slice As sl.length cs] 110)).cell? ⟨w.heap.size + 1, k, none⟩ = some (.int .u64 s) := (acell wr _ _ _ hgl).trans o0
        clear htv hnl hsl hs hIn hIs hs2
        by_cases hs0 : s = 0
        · have HNO : Hid (rightB c F = false) := right_no hlt HS.out (fork_first (.inl (by rw [HSV.out, hs0])))
          have e0 : ((s : Int) == 0) = true := by rw [hs0]; rfl
          clear hs0
          go_wp2_with fail
          go_quiet (fail)
          go_wp2_with fail
          go_ret
          exact ⟨ret_b (by rw [← HR.out, HNO.out]), hb1.trans ((below_drewN (HB.out.alloc (by omega) _) _).mono (by omega))⟩
        · have e0 : ((s : Int) == 0) = false := by simpa using hs0
          have HS0 : Hid (s ≠ 0) := hs0
          have HB2 : Hid (Below (w.heap.size + 1) (w.alloc (.cells #[.slice A1 c.weights.length c1, .slice A2 c.tests.length c2] 36)) (wr.alloc (.cells #[.int .i64 tv, .slice An nl.length cn, .slice As sl.length cs] 110))) := HB.out.alloc (by omega) _
          have HO2 : Hid (SetsF (wr.alloc (.cells #[.int .i64 tv, .slice An nl.length cn, .slice As sl.length cs] 110)) (w.heap.size + 1) F.length S) := OwnF.alloc HO.out _
          have HA2 : Hid (IntsA (wr.alloc (.cells #[.int .i64 tv, .slice An nl.length cn, .slice As sl.length cs] 110)) w.heap.size An nl ∧ IntsA (wr.alloc (.cells #[.int .i64 tv, .slice An nl.length cn, .slice As sl.length cs] 110)) w.heap.size As sl) := ⟨IntsA.alloc HIN'.out (by omega) _ (Nat.le_refl _), IntsA.alloc HIS'.out (by omega) _ (Nat.le_refl _)⟩
          have hsz2 : (wr.alloc (.cells #[.int .i64 tv, .slice An nl.length cn, .slice As sl.length cs] 110)).heap.size = wr.heap.size + 1 := by simp
          obtain ⟨rs, hrs⟩ : ∃ rs, decide (sl = bitsI s) = rs := ⟨_, rfl⟩
          have HRS := Lib.hid hrs
          clear hs0 hrs
          go_wp2_with fail
          clear HB HO HIN' HIS' t0 t1 t2 o0
          generalize wr.alloc (.cells #[.int .i64 tv, .slice An nl.length cn, .slice As sl.length cs] 110) = W2 at *
          generalize wr.heap.size = tp at *
          have HK : Hid (∀ wx, Below W2.heap.size W2 wx → (wx.cell? ⟨tp, 0, none⟩ = some (.int .i64 tv) ∧ wx.cell? ⟨tp, 1, none⟩ = some (.slice An nl.length cn) ∧ wx.cell? ⟨tp, 2, none⟩ = some (.slice As sl.length cs)) ∧ SetsF wx (w.heap.size + 1) F.length S ∧ Below (w.heap.size + 1) (w.alloc (.cells #[.slice A1 c.weights.length c1, .slice A2 c.tests.length c2] 36)) wx ∧ IntsA wx w.heap.size An nl ∧ IntsA wx wx.heap.size As sl) := fun wx hb => ⟨⟨(bcell hb _ _ (by omega)).trans q0, (bcell hb _ _ (by omega)).trans q1, (bcell hb _ _ (by omega)).trans q2⟩, HO2.out.below hb HO2.out.lt, HB2.out.trans (hb.mono (by have := HO2.out.lt; omega)), HA2.out.1.keep (hb.mono (by omega)), (HA2.out.2.keep (hb.mono (by omega))).more (by have := hb.size; omega)⟩
          clear q0 q1 o1
          have HLS := Lib.hid (list_any s W2.drew hs12 (HC.out W2.drew HB2.out.drew).2.1)
          go_region_held3 (fun w' => w'.cell? ⟨tp, 2, none⟩ = some (.slice As sl.length cs)) (first | exact q2 | exact d5 | exact d6 | assumption) ((first | (go_at_call 65; refine HLS.out.mono ?_; rintro e w5 ⟨v5, rfl, hO5, hb5⟩; obtain ⟨A5, c5, hv5, _, hI5⟩ := hO5.reads; subst hv5; have HI5 := Lib.hid hI5; have hb5' : Below W2.heap.size W2 w5 := (Below.refl W2.heap.size W2).drew.trans hb5; have HB5 := Lib.hid hb5'; have d5 := (HK.out w5 hb5').1.2.2; clear hO5 hI5 hb5 hb5') | (go_at_call 108; refine (equal_ints As A5 cs c5 sl (bitsI s) w5 (HK.out w5 HB5.out).2.2.2.2 HI5.out HRS.out).mono ?_; rintro e w6 ⟨rfl, hb6⟩; have hb6' : Below W2.heap.size W2 w6 := HB5.out.trans (hb6.mono HB5.out.size); have HB6 := Lib.hid hb6'; have d6 := (HK.out w6 hb6').1.2.2; clear hb6 hb6')))
          obtain ⟨⟨d0, d1, d2⟩, hO6, hb16, hIn6, hIs6⟩ := HK.out w6 HB6.out
          have HO6 := Lib.hid hO6
          have HB16 := Lib.hid hb16
          have HN6 := Lib.hid hIn6
          obtain ⟨p0, p1⟩ := HNN.out w6 hb16
          have hs6 := HB6.out.size
          have hg6 := HO6.out.lt
          have htg : w.heap.size + 1 < tp := hgl
          clear hO6 hb16 hIn6 hIs6 HK HB6 HB5 HI5 HA2 HO2 HB2 d5 d6 q2
          rcases rs with _ | _
          · have HNO : Hid (rightB c F = false) := right_no hlt HS.out (fork_first (.inr (by rw [HSL.out, HSV.out]; exact of_decide_eq_false HRS.out)))
            clear d0 d1 d2 p0 p1
            go_wp2_with fail
            go_ret
            exact ⟨ret_b (by rw [← HR.out, HNO.out]), hb1.trans (HB16.out.mono (by omega))⟩
          · have HSET : Hid ((fk F k).set = bitsI (S k)) := by show _ = _; rw [HSL.out, HSV.out]; exact of_decide_eq_true HRS.out
            have HS0' : Hid (S k ≠ 0) := by show _; rw [HSV.out]; exact HS0.out
            by_cases ht : tv = -1
            · have HFK := Lib.hid (fork_leaf (c := c) HS0'.out HSET.out (by rw [HTV.out]; exact ht))
              have e1 : (tv == -1) = true := by rw [ht]; rfl
              clear ht
              by_cases hnz : nl.length = 0
              · rw [hnz] at d1
                have HNZ := Lib.hid hnz
                obtain ⟨al, hal⟩ : ∃ al, alikeB c s (-1) = al := ⟨_, rfl⟩
                have HAL := Lib.hid hal
                have HLF : Hid (leafR c (fk F k) (S k) ↔ al = true) := by
                  show _ ↔ _
                  unfold leafR
                  rw [HNL.out, HSV.out, HAL.out]
                  exact ⟨fun h => h.2, fun h => ⟨HNZ.out, h⟩⟩
                have HC6 : Hid (Calls Tryd.prog 102 #[.agg #[.slice A1 c.weights.length c1, .slice A2 c.tests.length c2], .int .u64 s, .int .i64 (-1)] w6 fun e w' => e = .returned (.bool al) ∧ Below w6.heap.size w6 w') := alike_any A1 A2 c1 c2 c s (-1) w6 (HC.out w6 HB16.out).1 (HC.out w6 HB16.out).2.1 HCB.out HS2.out HAL.out
                clear hnz hal
                rcases al with _ | _
                · have HNO : Hid (rightB c F = false) := right_no hlt HS.out (by rw [HFK.out, if_neg (fun h => Bool.noConfusion (HLF.out.1 h))])
                  go_wp2_with (go_at_call 102; refine HC6.out.mono ?_; rintro e w7 ⟨rfl, hb7⟩)
                  go_ret
                  exact ⟨ret_b (by rw [← HR.out, HNO.out]), (hb1.trans (HB16.out.mono (by omega))).trans (hb7.mono (by omega))⟩
                · have HYES : Hid (pTo c F (k + 1) = some S) := by show _ = _; rw [pTo_succ HS.out, HFK.out, if_pos (HLF.out.2 rfl)]
                  go_wp2_with (go_at_call 102; refine HC6.out.mono ?_; rintro e w7 ⟨rfl, hb7⟩; have HB7 := Lib.hid hb7; clear hb7)
                  go_roundw
                  case rel => exact ⟨k + 1, S, by omega, by go_num, HYES.out, HO6.out.below HB7.out (by omega), HB16.out.trans (HB7.out.mono (by omega))⟩
                  case measure => simp [intOf]; omega
              · have HNO : Hid (rightB c F = false) := right_no hlt HS.out (by rw [HFK.out, if_neg (fun h => hnz (by rw [← HNL.out]; exact h.1))])
                obtain ⟨m, hm⟩ : ∃ m, nl.length = m := ⟨_, rfl⟩
                rw [hm] at d1 hnz hnlen
                have hm0 : 0 < m := by omega
                clear hnz hm hcn
                go_wp2_with fail
                go_ret
                exact ⟨ret_b (by rw [← HR.out, HNO.out]), hb1.trans (HB16.out.mono (by omega))⟩
            · have HFK := Lib.hid (fork_node (c := c) HS0'.out HSET.out (by rw [HTV.out]; exact ht))
              have e1 : (tv == -1) = false := by simpa using ht
              have hm12 := HOK.out.t
              have hwr : IntKind.i64.wrap ((c.tests.length : Int) - 1) = (c.tests.length : Int) - 1 := IntWalk.i64_in _ (by omega)
              clear ht
              obtain ⟨bt, hbt⟩ : ∃ bt, inB tv 0 ((c.tests.length : Int) - 1) = bt := ⟨_, rfl⟩
              have HBT := Lib.hid hbt
              clear hbt
              by_cases hz4 : bt = true ∧ nl.length = 4
              rotate_left
              · have HNO : Hid (rightB c F = false) := right_no hlt HS.out (by
                  rw [HFK.out, if_neg]
                  rintro ⟨h1, h2, h3, _⟩
                  rw [HTV.out] at h1 h2
                  rw [HNL.out] at h3
                  refine hz4 ⟨?_, h3⟩
                  rw [← HBT.out]
                  exact inB_iff'.2 (by omega))
                rcases bt with _ | _
                · clear hz4
                  go_wp2_with (go_at_call 66; refine (within_b _ _ _ _ _ HBT.out).mono ?_; rintro e w7 ⟨rfl, rfl⟩)
                  go_ret
                  exact ⟨ret_b (by rw [← HR.out, HNO.out]), hb1.trans (HB16.out.mono (by omega))⟩
                · obtain ⟨m, hm⟩ : ∃ m, nl.length = m := ⟨_, rfl⟩
                  rw [hm] at d1 hz4 hnlen
                  have e4 : ((m : Int) != 4) = true := by
                    rw [bne_iff_ne]
                    intro e
                    exact hz4 ⟨rfl, by omega⟩
                  clear hz4 hm hcn
                  go_wp2_with (go_at_call 66; refine (within_b _ _ _ _ _ HBT.out).mono ?_; rintro e w7 ⟨rfl, rfl⟩)
                  go_ret
                  exact ⟨ret_b (by rw [← HR.out, HNO.out]), hb1.trans (HB16.out.mono (by omega))⟩
              · obtain ⟨rfl, hz4⟩ := hz4
                rw [hz4] at d1
                have htr := inB_iff'.1 HBT.out
                obtain ⟨tn, htn⟩ : ∃ tn : Nat, tv = (tn : Int) := ⟨tv.toNat, by omega⟩
                subst htn
                have htl : tn < c.tests.length := by omega
                obtain ⟨t, tb, tf, Ap, cp, htt, rfl, htb, m0, m1, hcp, hIp⟩ := (HC.out w6 HB16.out).1.ts.at_ htl
                have hpo := HOK.out.p tn t htt
                have HTA : Hid (testAt c (tn : Int) = t) := by
                  show _ = _
                  unfold testAt
                  rw [Int.toNat_natCast, List.getD_eq_getElem?_getD, htt]
                  rfl
                obtain ⟨X, hX⟩ : ∃ X : NN, partS t.outs s = X := ⟨_, rfl⟩
                obtain ⟨R, hRR⟩ : ∃ R, partsTo t.outs s 4 = R := ⟨_, rfl⟩
                have HX := Lib.hid hX
                have HRR := Lib.hid hRR
                have HSP : Hid (Calls Tryd.prog 94 #[.agg #[.int .i64 t.cost, .slice Ap t.outs.length cp], .int .u64 s] w6 fun e w' => e = .returned (.tuple #[.agg #[.int .u64 (X 0), .int .u64 (X 1), .int .u64 (X 2), .int .u64 (X 3)], .int .i64 R]) ∧ Below w6.heap.size w6 w') := split_any t Ap cp s c.weights.length w6 (HC.out w6 HB16.out).2.1 hIp hpo.2.1 HOK.out.n2 hpo.2.2 HS2.out (congrFun hX 0) (congrFun hX 1) (congrFun hX 2) (congrFun hX 3) hRR
                have hR4 : R ≤ 4 := by rw [← hRR]; exact partsTo_le _ _ _
                have HFR : Hid (forkR c (fk F k) (S k) ↔ 2 ≤ R) := by
                  show _ ↔ _
                  unfold forkR
                  rw [HTV.out, HNL.out, HSV.out, HTA.out, HRR.out]
                  exact ⟨fun h => h.2.2.2, fun h => ⟨by omega, by omega, by omega, h⟩⟩
                clear hX hRR htt hpo hIp hcp htr
                by_cases h2R : R < 2
                · have HNO : Hid (rightB c F = false) := right_no hlt HS.out (by rw [HFK.out, if_neg (fun h => by have := HFR.out.1 h; omega)])
                  have e5 : decide ((R : Int) < 2) = true := decide_eq_true (by omega)
                  clear h2R
                  go_wp2_with (first | (go_at_call 66; refine (within_b _ _ _ _ _ HBT.out).mono ?_; rintro e w7 ⟨rfl, rfl⟩) | (go_at_call 94; refine HSP.out.mono ?_; rintro e w8 ⟨rfl, hb8⟩; have HB8 := Lib.hid hb8; clear hb8))
                  go_ret
                  exact ⟨ret_b (by rw [← HR.out, HNO.out]), (hb1.trans (HB16.out.mono (by omega))).trans ((HB8.out.alloc HB8.out.size _).mono (by omega))⟩
                · have e5 : decide ((R : Int) < 2) = false := decide_eq_false (by omega)
                  have HFK2 : Hid (pTo c F (k + 1) = pKids F.length k X nl 4 S) := by
                    show _ = _
                    rw [pTo_succ HS.out, HFK.out, if_pos (HFR.out.2 (by omega)), HTV.out, HTA.out, HSV.out, HX.out, HNL.out]
                  clear h2R
                  go_wp2_with (first | (go_at_call 66; refine (within_b _ _ _ _ _ HBT.out).mono ?_; rintro e w7 ⟨rfl, rfl⟩) | (go_at_call 94; refine HSP.out.mono ?_; rintro e w8 ⟨rfl, hb8⟩; have HB8 := Lib.hid hb8; clear hb8))
                  have HB18 : Hid (Below (w.heap.size + 1) (w.alloc (.cells #[.slice A1 c.weights.length c1, .slice (some ⟨tb, tf, none⟩) c.tests.length c2] 36)) (w8.alloc (.cells #[.int .u64 (X 0), .int .u64 (X 1), .int .u64 (X 2), .int .u64 (X 3)] 143))) := (HB16.out.trans (HB8.out.mono (by omega))).alloc (by have := HB8.out.size; omega) _
                  have HO8 : Hid (SetsF (w8.alloc (.cells #[.int .u64 (X 0), .int .u64 (X 1), .int .u64 (X 2), .int .u64 (X 3)] 143)) (w.heap.size + 1) F.length S) := OwnF.alloc (HO6.out.below HB8.out (by omega)) _
                  have HN8 : Hid (IntsA (w8.alloc (.cells #[.int .u64 (X 0), .int .u64 (X 1), .int .u64 (X 2), .int .u64 (X 3)] 143)) w.heap.size An nl) := HN6.out.keep ((HB8.out.mono (by omega)).alloc (by have := HB8.out.size; omega) _)
                  have d8 : (w8.alloc (.cells #[.int .u64 (X 0), .int .u64 (X 1), .int .u64 (X 2), .int .u64 (X 3)] 143)).cell? ⟨tp, 1, none⟩ = some (.slice An 4 cn) := (acell w8 _ _ _ (by have := HB8.out.size; omega)).trans ((bcell HB8.out _ _ (by omega)).trans d1)
                  clear d0 d1 d2 p0 p1 m0 m1 HSP HB8 HB16 HO6 HN6
                  generalize w8.alloc (.cells #[.int .u64 (X 0), .int .u64 (X 1), .int .u64 (X 2), .int .u64 (X 3)] 143) = w9 at *
                  go_loopw [87] (fun vi wx => ∃ (o : Nat) (S' : NN), o ≤ 4 ∧ vi = .int .i64 o ∧ Hid (pKids F.length k X nl o S = some S') ∧ Hid (SetsF wx (w.heap.size + 1) F.length S') ∧ Hid (wx.cell? ⟨tp, 1, none⟩ = some (.slice An 4 cn)) ∧ Hid (Below (w.heap.size + 1) w9 wx)) (fun vi _ => 4 - (intOf vi).toNat)
                  case atStart => exact ⟨0, S, by omega, rfl, rfl, HO8.out, d8, Below.refl _ _⟩
                  case round =>
                    obtain ⟨o, S', ho4, rfl, HS', HO', HD, HB'⟩ := hrel
                    rename World => wx
                    have HBx : Hid (Below (w.heap.size + 1) (w.alloc (.cells #[.slice A1 c.weights.length c1, .slice (some ⟨tb, tf, none⟩) c.tests.length c2] 36)) wx) := HB18.out.trans HB'.out
                    have hgx := OwnF.lt HO'.out
                    by_cases ho : o < 4
                    rotate_left
                    · obtain rfl : o = 4 := by omega
                      go_wp2_with fail
                      go_roundw
                      case rel => exact ⟨k + 1, S', by omega, by go_num, by rw [HFK2.out]; exact HS'.out, HO'.out, HBx.out⟩
                      case measure => simp [intOf]; omega
                    · obtain ⟨nb, no, hAn, hnb, n0⟩ := (HN8.out.keep (HB'.out.mono (by omega))).at_ (show o < nl.length by rw [hz4]; exact ho)
                      obtain ⟨nv, hnv⟩ : ∃ nv, nl.getD o 0 = nv := ⟨_, rfl⟩
                      have i0 := ixX X ho
                      have HKS := Lib.hid (pKids_succ HS'.out)
                      rw [hnv] at n0 HKS
                      have d1 := HD.out
                      rw [hAn] at d1
                      obtain ⟨x, hx⟩ : ∃ x, X o = x := ⟨_, rfl⟩
                      rw [hx] at i0 HKS
                      have HFAIL : Hid (pKid F.length k x nv S' = none → rightB c F = false) := fun h => by
                        refine right_no hlt HS.out ?_
                        rw [← pTo_succ HS.out, HFK2.out]
                        exact pKids_none (HKS.out.trans h) (by omega)
                      have hx12 : x < 4096 := by
                        rw [← hx, ← HX.out]
                        exact partS_lt _ _ _
                      clear hnv hx hAn
                      by_cases hx0 : x = 0
                      · have ex : ((x : Int) == 0) = true := by rw [hx0]; rfl
                        by_cases hv : nv = -1
                        · have ev : (nv == -1) = true := by rw [hv]; rfl
                          have HNEXT : Hid (pKids F.length k X nl (o + 1) S = some S') := by
                            show _ = _
                            rw [HKS.out]
                            unfold pKid
                            rw [if_pos hx0, if_pos hv]
                          clear hx0 hv
                          go_wp2_with fail
                          go_roundw
                          case rel => exact ⟨o + 1, S', by omega, by go_num, HNEXT.out, HO'.out, HD.out, HB'.out⟩
                          case measure => simp [intOf]; omega
                        · have ev : (nv == -1) = false := by simpa using hv
                          have HNO : Hid (rightB c F = false) := HFAIL.out (by unfold pKid; rw [if_pos hx0, if_neg hv])
                          clear hx0 hv
                          go_wp2_with fail
                          go_ret
                          exact ⟨ret_b (by rw [← HR.out, HNO.out]), hb1.trans (HBx.out.mono (by omega))⟩
                      · have ex : ((x : Int) == 0) = false := by simpa using hx0
                        have hw1 : IntKind.i64.wrap ((F.length : Int) - 1) = (F.length : Int) - 1 := IntWalk.i64_in _ (by omega)
                        have hw2 : IntKind.i64.wrap ((k : Int) + 1) = (k : Int) + 1 := IntWalk.i64_in _ (by omega)
                        rcases hbt : inB nv ((k : Int) + 1) ((F.length : Int) - 1)
                        · have HBN := Lib.hid hbt
                          have HNO : Hid (rightB c F = false) := HFAIL.out (by
                            unfold pKid
                            rw [if_neg hx0, if_neg]
                            rintro ⟨⟨h1, h2⟩, _⟩
                            rw [inB_iff'.2 ⟨h1, h2⟩] at hbt
                            cases hbt)
                          clear hx0 hbt
                          go_wp2_with (go_at_call 66; refine (within_b _ _ _ _ _ HBN.out).mono ?_; rintro e w10 ⟨rfl, rfl⟩)
                          go_ret
                          exact ⟨ret_b (by rw [← HR.out, HNO.out]), hb1.trans (HBx.out.mono (by omega))⟩
                        · have HBN := Lib.hid hbt
                          have hnn := inB_iff'.1 hbt
                          obtain ⟨m, hm⟩ : ∃ m : Nat, nv = (m : Int) := ⟨nv.toNat, by omega⟩
                          subst hm
                          have hml : m < F.length := by omega
                          have s0 := OwnF.cell HO'.out hml
                          have sf := OwnF.frozen HO'.out m
                          obtain ⟨y, hy⟩ : ∃ y, S' m = y := ⟨_, rfl⟩
                          rw [hy] at s0
                          by_cases hy0 : y = 0
                          · have HNEXT : Hid (pKids F.length k X nl (o + 1) S = some (updN S' m x)) := by
                              show _ = _
                              rw [HKS.out]
                              unfold pKid
                              rw [if_neg hx0, if_pos ⟨⟨hnn.1, hnn.2⟩, by rw [Int.toNat_natCast, hy, hy0]⟩, Int.toNat_natCast]
                            rw [hy0] at s0
                            clear hx0 hbt hy hy0
                            go_wp2_with (go_at_call 66; refine (within_b _ _ _ _ _ HBN.out).mono ?_; rintro e w10 ⟨rfl, rfl⟩)
                            go_roundw
                            case rel => exact ⟨o + 1, updN S' m x, by omega, by go_num, HNEXT.out, HO'.out.put m x, (cell_far2 (by omega)).trans HD.out, HB'.out.setCell (p := ⟨w.heap.size + 1, m, none⟩) (Nat.le_refl _) _⟩
                            case measure => simp [intOf]; omega
                          · have HNO : Hid (rightB c F = false) := HFAIL.out (by
                              unfold pKid
                              rw [if_neg hx0, if_neg]
                              rintro ⟨_, h2⟩
                              rw [Int.toNat_natCast, hy] at h2
                              exact hy0 h2)
                            have hyp : 0 < y := by omega
                            clear hx0 hbt hy hy0
                            go_wp2_with (go_at_call 66; refine (within_b _ _ _ _ _ HBN.out).mono ?_; rintro e w10 ⟨rfl, rfl⟩)
                            go_ret
                            exact ⟨ret_b (by rw [← HR.out, HNO.out]), hb1.trans (HBx.out.mono (by omega))⟩
end Go.Proofs.YtonpemikodajdaaDoor
