/- Walks: ignitionref10.right. -/
import Derived.Test.YtonpemikodajdaaDoorRr1
namespace Go.Proofs.YtonpemikodajdaaDoor
open Go.RowKit

theorem Below.drewn {B : Nat} {w w' : World} (h : Below B w w') (n : Nat) : Below B w (w'.drewN n) := ⟨h.os, h.tape, h.output, h.size, h.block⟩
/-- every block but one stays as it was -/
structure Keep1 (g : Nat) (W w' : World) : Prop where
  bel : Below g W w'
  oth : ∀ b, g < b → b < W.heap.size → w'.heap[b]? = W.heap[b]?
theorem Keep1.refl (g : Nat) (W : World) : Keep1 g W W := ⟨Below.refl _ _, fun _ _ _ => rfl⟩
theorem Keep1.then_ {g : Nat} {W w w' : World} (h : Keep1 g W w) (hg : g ≤ w.heap.size) (hb : Below w.heap.size w w') : Keep1 g W w' :=
  ⟨h.bel.trans (hb.mono hg), fun b h1 h2 => (hb.block b (Nat.lt_of_lt_of_le h2 h.bel.size)).trans (h.oth b h1 h2)⟩
theorem Keep1.set {g : Nat} {W w : World} (h : Keep1 g W w) (j : Nat) (v : Value) : Keep1 g W (w.setCell ⟨g, j, none⟩ v) :=
  ⟨h.bel.setCell (p := ⟨g, j, none⟩) (Nat.le_refl _) _, fun b h1 h2 => (Below.heap_setCell w ⟨g, j, none⟩ v b (by show b ≠ g; omega)).trans (h.oth b h1 h2)⟩
theorem Keep1.cell {g : Nat} {W w : World} (h : Keep1 g W w) {b o : Nat} (h1 : b ≠ g) (h2 : b < W.heap.size) : w.cell? ⟨b, o, none⟩ = W.cell? ⟨b, o, none⟩ :=
  World.cell?_of_block (w := W) (by
    rcases Nat.lt_or_ge b g with h3 | h3
    · exact h.bel.block b h3
    · exact h.oth b (by omega) h2)
/-- how often each fork was named, in a row of the call's own -/
def ManyF (w : World) (g n : Nat) (S : NN) : Prop := OwnF w g 3 n (fun j => .int .i64 (S j))
theorem ManyF.put {w : World} {g n : Nat} {S : NN} (h : ManyF w g n S) (j x : Nat) : ManyF (w.setCell ⟨g, j, none⟩ (.int .i64 x)) g n (updN S j x) :=
  (OwnF.set h j (.int .i64 x)).congr fun i _ => by unfold updN; split <;> rfl
theorem ManyF.below {w w' : World} {g n B : Nat} {S : NN} (h : ManyF w g n S) (hb : Below B w w') (hg : g < B) : ManyF w' g n S := OwnF.below h hb hg
set_option maxRecDepth 100000 in
set_option maxHeartbeats 8000000 in
theorem rright_any (A1 A2 : Option Addr) (c1 c2 : Nat) (c : MCase) (A : Option Addr) (cap : Nat) (F : List MFork) (w : World) (h : CaseA w w.heap.size A1 A2 c) (hc : caseB c = true) (hF : ForksA w w.heap.size A F) {r : Bool} (hr : rrightB c F = r) :
    Calls Tryd.prog 77 #[.agg #[.slice A1 c.weights.length c1, .slice A2 c.tests.length c2], .slice A F.length cap] w fun e w' => e = .returned (.bool r) ∧ Below w.heap.size w w' := by
  have hb1 : Below w.heap.size w (w.alloc (.cells #[.slice A1 c.weights.length c1, .slice A2 c.tests.length c2] 36)) := (Below.refl _ _).alloc (Nat.le_refl _) _
  have hsz : (w.alloc (.cells #[.slice A1 c.weights.length c1, .slice A2 c.tests.length c2] 36)).heap.size = w.heap.size + 1 := by simp
  have HR := Lib.hid hr
  have HOK := Lib.hid (caseOk hc)
  have HCB := Lib.hid hc
  have hfl := hF.1
  unfold maxLen at hfl
  clear hr hc
  by_cases hN : 1 ≤ F.length ∧ F.length ≤ 5000
  rotate_left
  · have HNO := Lib.hid (rright_far (c := c) hN)
    have HIN : Hid (inB (F.length : Int) 1 5000 = false) := by
      show _ = _
      rcases hh : inB (F.length : Int) 1 5000
      · rfl
      · have := inB_iff'.1 hh
        omega
    clear hN
    go_enter Tryd.func77, Tryd.ntmps77
    go_wp2_with fail
    go_quiet ((go_at_call 63; exact quiet_w (rwithin_b _ _ _ _ _ HIN.out)))
    go_wp2_with fail
    go_ret
    exact ⟨ret_b (by rw [← HR.out, HNO.out]), Below.drewn hb1 _⟩
  · have HIN : Hid (inB (F.length : Int) 1 5000 = true) := inB_iff'.2 (by omega)
    have n0 := newcell w #[.slice A1 c.weights.length c1, .slice A2 c.tests.length c2] 36 0
    have n1 := newcell w #[.slice A1 c.weights.length c1, .slice A2 c.tests.length c2] 36 1
    simp only [List.getElem?_toArray, List.getElem?_cons_succ, List.getElem?_cons_zero] at n0 n1
    have HC : Hid (∀ wx, Below (w.heap.size + 1) (w.alloc (.cells #[.slice A1 c.weights.length c1, .slice A2 c.tests.length c2] 36)) wx → CaseA wx wx.heap.size A1 A2 c ∧ ForksA wx w.heap.size A F) := fun wx hb => ⟨(h.keep (hb1.trans (hb.mono (by omega)))).more (by have := hb.size; omega), hF.keep (hb1.trans (hb.mono (by omega)))⟩
    have HNN : Hid (∀ wx, Below (w.heap.size + 1) (w.alloc (.cells #[.slice A1 c.weights.length c1, .slice A2 c.tests.length c2] 36)) wx → wx.cell? ⟨w.heap.size, 0, none⟩ = some (.slice A1 c.weights.length c1) ∧ wx.cell? ⟨w.heap.size, 1, none⟩ = some (.slice A2 c.tests.length c2)) := fun wx hb => ⟨(bcell hb _ _ (by omega)).trans n0, (bcell hb _ _ (by omega)).trans n1⟩
    clear h hF n0 n1
    have hn5 : F.length ≤ 5000 := hN.2
    have hn1 : 1 ≤ F.length := hN.1
    have hn0 : 0 < F.length := hN.1
    clear hN
    obtain ⟨p0, p1⟩ := HNN.out _ (Below.refl _ _)
    obtain ⟨fb, fo, An, cn, As, cs, hA, hfb, t0, t1, t2, hcn, hIn, hcs, hIs⟩ := (HC.out _ (Below.refl _ _)).2.at_ (show 0 < F.length by omega)
    subst hA
    obtain ⟨s0, hs0⟩ : ∃ x, (fk F 0).set = x := ⟨_, rfl⟩
    rw [hs0] at t2 hcs hIs
    have t2 : (w.alloc (.cells #[.slice A1 c.weights.length c1, .slice A2 c.tests.length c2] 36)).cell? ⟨fb, fo + 2, none⟩ = some (.slice As s0.length cs) := by
      rw [show fo + 2 = fo + 0 * 3 + 2 by omega]
      exact t2
    obtain ⟨rs, hrs⟩ : ∃ rs, decide (s0 = bitsI (fullS c)) = rs := ⟨_, rfl⟩
    have HRS := Lib.hid hrs
    have HS0 := Lib.hid hs0
    have HIS := Lib.hid hIs
    have HAL : Hid (Calls Tryd.prog 61 #[.agg #[.slice A1 c.weights.length c1, .slice A2 c.tests.length c2]] (w.alloc (.cells #[.slice A1 c.weights.length c1, .slice A2 c.tests.length c2] 36)).drew fun e w' => (∃ v, e = .returned v ∧ OutI w' (w.alloc (.cells #[.slice A1 c.weights.length c1, .slice A2 c.tests.length c2] 36)).drew.heap.size v (bitsI (fullS c))) ∧ Below (w.alloc (.cells #[.slice A1 c.weights.length c1, .slice A2 c.tests.length c2] 36)).drew.heap.size (w.alloc (.cells #[.slice A1 c.weights.length c1, .slice A2 c.tests.length c2] 36)).drew w') := all_any A1 A2 c1 c2 c _ HOK.out.n2
    clear hrs hs0 t0 t1 hcn hIn hIs
    go_enter Tryd.func77, Tryd.ntmps77
    go_wp2_with fail
    go_region_held3 (fun w' => w'.cell? ⟨fb, fo + 2, none⟩ = some (.slice As s0.length cs) ∧ w'.cell? ⟨w.heap.size, 0, none⟩ = some (.slice A1 c.weights.length c1) ∧ w'.cell? ⟨w.heap.size, 1, none⟩ = some (.slice A2 c.tests.length c2)) (first | exact ⟨t2, p0, p1⟩ | exact ⟨d5, r5⟩ | exact ⟨d6, r6⟩ | assumption) ((first | (go_at_call 63; refine (rwithin_b _ _ _ _ _ HIN.out).mono ?_; rintro e w' ⟨rfl, rfl⟩) | (go_at_call 61; refine HAL.out.mono ?_; rintro e w5 ⟨⟨v5, rfl, hO5⟩, hb5⟩; obtain ⟨A5, c5, hv5, _, hI5⟩ := hO5.reads; subst hv5; have HI5 := Lib.hid hI5; have hb5' : Below (w.heap.size + 1) (w.alloc (.cells #[.slice A1 c.weights.length c1, .slice A2 c.tests.length c2] 36)) w5 := (Below.refl _ _).drew.trans (hb5.mono (Nat.le_of_eq hsz.symm)); have HB5 := Lib.hid hb5'; have d5 := (bcell hb5' fb (fo + 2) (by omega)).trans t2; have r5 := HNN.out w5 hb5'; clear hO5 hI5 hb5 hb5') | (go_at_call 109; refine (rsame_ints As A5 cs c5 s0 (bitsI (fullS c)) w5 ((HIS.out.keep (HB5.out.mono (by omega))).more (by have := HB5.out.size; omega)) HI5.out HRS.out).mono ?_; rintro e w6 ⟨rfl, hb6⟩; have hb6' : Below (w.heap.size + 1) (w.alloc (.cells #[.slice A1 c.weights.length c1, .slice A2 c.tests.length c2] 36)) w6 := HB5.out.trans (hb6.mono (by have := HB5.out.size; omega)); have HB6 := Lib.hid hb6'; have d6 := (bcell hb6' fb (fo + 2) (by omega)).trans t2; have r6 := HNN.out w6 hb6'; clear hb6 hb6')))
    have HB16 := HB6
    obtain ⟨p0, p1⟩ := HNN.out w6 HB6.out
    have hs6 := HB6.out.size
    rw [hsz] at hs6
    clear t2 HAL HI5 HB5 d5 r5 d6 r6 HIS
    rcases rs with _ | _
    · have HNO : Hid (rrightB c F = false) := rright_root (by rw [HS0.out]; exact of_decide_eq_false HRS.out)
      clear p0 p1
      go_wp2_with fail
      go_ret
      exact ⟨ret_b (by rw [← HR.out, HNO.out]), hb1.trans (HB6.out.mono (by omega))⟩
    have HROOT : Hid ((fk F 0).set = bitsI (fullS c)) := HS0.out.trans (of_decide_eq_true HRS.out)
    clear p0 p1
    go_wp2_with (at_make; refine mk_ints _ rfl _ _ rfl F.length rfl rfl (by omega) ?_; intro w7 hO7 hb7; have HO7 : Hid (ManyF w7 w6.heap.size F.length (fun _ => 0)) := hO7; have HB7 := Lib.hid hb7; clear hO7 hb7)
    have HO8 : Hid (ManyF w7 w6.heap.size F.length (fun _ => 0)) := HO7.out
    have HB17 : Hid (Below (w.heap.size + 1) (w.alloc (.cells #[.slice A1 c.weights.length c1, .slice A2 c.tests.length c2] 36)) w7) := HB6.out.trans (HB7.out.mono hs6)
    have hgw : w.heap.size + 1 ≤ w6.heap.size := hs6
    clear HB6 HB16 HB7 HO7
    generalize w6.heap.size = g at *
    go_loopw [6] (fun vi wr => ∃ (k : Nat) (q : NN × NN), k ≤ F.length ∧ vi = .int .i64 k ∧ Hid (rTo c F k = some q) ∧ Hid (ManyF wr g F.length q.1) ∧ Hid (Below (w.heap.size + 1) (w.alloc (.cells #[.slice A1 c.weights.length c1, .slice A2 c.tests.length c2] 36)) wr)) (fun vi _ => F.length - (intOf vi).toNat)
    case atStart => exact ⟨0, (fun _ => 0, root0 c), Nat.zero_le _, rfl, rfl, HO8.out, HB17.out⟩
    case round =>
      clear HO8 HB17
      obtain ⟨k, q, hk, rfl, HS, HO, HB⟩ := hrel
      rename World => wr
      have hgl := OwnF.lt HO.out
      by_cases hlt : k < F.length
      rotate_left
      · obtain rfl : k = F.length := by omega
        go_wp2_with fail
        go_ret
        exact ⟨ret_b (by rw [← HR.out]; exact (rright_yes hn1 hn5 HROOT.out HS.out).symm), hb1.trans (HB.out.mono (by omega))⟩
      · obtain ⟨fb', fo', An, cn, As, cs, hA, hfb', t0, t1, t2, hcn, hIn, hcs, hIs⟩ := (HC.out wr HB.out).2.at_ hlt
        injection hA with hA
        injection hA with e1 e2
        subst e1; subst e2

        obtain ⟨tv, htv⟩ : ∃ x, (fk F k).test = x := ⟨_, rfl⟩
        obtain ⟨nl, hnl⟩ : ∃ x, (fk F k).next = x := ⟨_, rfl⟩
        obtain ⟨sl, hsl⟩ : ∃ x, (fk F k).set = x := ⟨_, rfl⟩
        obtain ⟨s, hs⟩ : ∃ x, q.2 k = x := ⟨_, rfl⟩
        obtain ⟨a, ha⟩ : ∃ x, q.1 k = x := ⟨_, rfl⟩
        have o0 := OwnF.cell HO.out hlt
        have hs2 : s < 2 ^ c.weights.length := by rw [← hs]; exact rTo_lt HOK.out.n2 HS.out k
        have hs12 : s < 4096 := pow12 HOK.out.n2 hs2
        rw [htv] at t0
        rw [hnl] at t1 hcn hIn
        rw [hsl] at t2 hcs hIs
        rw [ha] at o0
        have HTV := Lib.hid htv
        have HNL := Lib.hid hnl
        have HSL := Lib.hid hsl
        have HSV := Lib.hid hs
        have HAV := Lib.hid ha
        have hnlen := hIn.1
        have hslen := hIs.1
        unfold maxLen at hnlen hslen
        have HIN' := Lib.hid hIn
        have HIS' := Lib.hid hIs
        have HS2 := Lib.hid hs2
        have q0 := newcell wr #[.int .i64 tv, .slice An nl.length cn, .slice As sl.length cs] 110 0
        have q1 := newcell wr #[.int .i64 tv, .slice An nl.length cn, .slice As sl.length cs] 110 1
        have q2 := newcell wr #[.int .i64 tv, .slice An nl.length cn, .slice As sl.length cs] 110 2
        simp only [List.getElem?_toArray, List.getElem?_cons_succ, List.getElem?_cons_zero] at q0 q1 q2
        have o1 : (wr.alloc (.cells #[.int .i64 tv, .slice An nl.length cn, .slice As sl.length cs] 110)).cell? ⟨g, k, none⟩ = some (.int .i64 a) := (acell wr _ _ _ hgl).trans o0
        clear htv hnl hsl hs ha hIn hIs hs2
        go_upto_region 8 with fail
        have HB2 : Hid (Below (w.heap.size + 1) (w.alloc (.cells #[.slice A1 c.weights.length c1, .slice A2 c.tests.length c2] 36)) (wr.alloc (.cells #[.int .i64 tv, .slice An nl.length cn, .slice As sl.length cs] 110))) := HB.out.alloc (by omega) _
        have HO2 : Hid (ManyF (wr.alloc (.cells #[.int .i64 tv, .slice An nl.length cn, .slice As sl.length cs] 110)) g F.length q.1) := OwnF.alloc HO.out _
        have HA2 : Hid (IntsA (wr.alloc (.cells #[.int .i64 tv, .slice An nl.length cn, .slice As sl.length cs] 110)) w.heap.size An nl ∧ IntsA (wr.alloc (.cells #[.int .i64 tv, .slice An nl.length cn, .slice As sl.length cs] 110)) w.heap.size As sl) := ⟨IntsA.alloc HIN'.out (by omega) _ (Nat.le_refl _), IntsA.alloc HIS'.out (by omega) _ (Nat.le_refl _)⟩
        have hsz2 : (wr.alloc (.cells #[.int .i64 tv, .slice An nl.length cn, .slice As sl.length cs] 110)).heap.size = wr.heap.size + 1 := by simp
        clear HB HO HIN' HIS' t0 t1 t2 o0
        generalize wr.alloc (.cells #[.int .i64 tv, .slice An nl.length cn, .slice As sl.length cs] 110) = W2 at *
        generalize wr.heap.size = tp at *
        obtain ⟨bb, hbb⟩ : ∃ bb, decide (0 < k ∧ a ≠ 1) = bb := ⟨_, rfl⟩
        have HBB := Lib.hid hbb
        clear hbb
        go_cut [46] (fun s46 wx => s46 = .bool bb ∧ wx = W2)
        case first =>
          by_cases h1 : 0 < k
          · have k1 : decide (0 < k) = true := decide_eq_true h1
            have HBZ : Hid (bb = ((a : Int) != 1)) := by
              show _ = _
              rw [← HBB.out, Bool.eq_iff_iff, decide_eq_true_eq, bne_iff_ne]
              exact ⟨fun h => by have := h.2; omega, fun h => ⟨h1, by omega⟩⟩
            go_wp2_with fail
            all_goals
              go_meet
              exact ⟨by rw [HBZ.out], rfl⟩
          · have k1 : decide (0 < k) = false := decide_eq_false h1
            obtain rfl : k = 0 := by omega
            have HBZ : Hid (bb = false) := by show bb = false; rw [← HBB.out]; exact decide_eq_false (fun h => h1 h.1)
            go_wp2_with fail
            go_meet
            exact ⟨by rw [HBZ.out], rfl⟩
        case rest =>
          obtain ⟨rfl, hwc⟩ := hcut
          rw [hwc]
          clear hwc
          rcases bb with _ | _
          rotate_left
          · have HNO : Hid (rrightB c F = false) := rright_no hlt HS.out (rfork_first (by rw [HAV.out]; exact of_decide_eq_true HBB.out))
            clear q0 q1 q2 o1
            go_wp2_with fail
            go_ret
            exact ⟨ret_b (by rw [← HR.out, HNO.out]), hb1.trans (HB2.out.mono (by omega))⟩
          have HNF : Hid (¬ (0 < k ∧ q.1 k ≠ 1)) := by show ¬ _; rw [HAV.out]; exact of_decide_eq_false HBB.out
          have HSE := Lib.hid (rTo_seen HOK.out.n1 HROOT.out HS.out k (by
            rcases Nat.eq_zero_or_pos k with e | e
            · exact .inl e
            · refine .inr ?_
              have : q.1 k = 1 := Classical.not_not.1 fun e2 => HNF.out ⟨e, e2⟩
              omega))
          have hsl2 : sl = bitsI s := by rw [← HSL.out, HSE.out.1, HSV.out]
          subst hsl2
          have HK : Hid (∀ wx, Below W2.heap.size W2 wx → (wx.cell? ⟨tp, 0, none⟩ = some (.int .i64 tv) ∧ wx.cell? ⟨tp, 1, none⟩ = some (.slice An nl.length cn) ∧ wx.cell? ⟨tp, 2, none⟩ = some (.slice As (bitsI s).length cs)) ∧ ManyF wx g F.length q.1 ∧ Below (w.heap.size + 1) (w.alloc (.cells #[.slice A1 c.weights.length c1, .slice A2 c.tests.length c2] 36)) wx ∧ IntsA wx w.heap.size An nl ∧ IntsA wx wx.heap.size As (bitsI s)) := fun wx hb => ⟨⟨(bcell hb _ _ (by omega)).trans q0, (bcell hb _ _ (by omega)).trans q1, (bcell hb _ _ (by omega)).trans q2⟩, HO2.out.below hb (by omega), HB2.out.trans (hb.mono (by omega)), HA2.out.1.keep (hb.mono (by omega)), (HA2.out.2.keep (hb.mono (by omega))).more (by have := hb.size; omega)⟩
          obtain ⟨⟨d0, d1, d2⟩, _, _, hIn6, hIs6⟩ := HK.out W2 (Below.refl _ _)
          have HI6 := Lib.hid hIs6
          have HN6 := Lib.hid hIn6
          obtain ⟨p0, p1⟩ := HNN.out W2 HB2.out
          clear q0 q1 q2 o1 hIn6 hIs6
          by_cases ht : tv = -1
          · have HFK := Lib.hid (rfork_leaf (c := c) HNF.out (by rw [HTV.out]; exact ht))
            have e1 : (tv == -1) = true := by rw [ht]; rfl
            clear ht
            by_cases hnz : nl.length = 0
            · rw [hnz] at d1
              have HNZ := Lib.hid hnz
              obtain ⟨al, hal⟩ : ∃ al, alikeB c s (-1) = al := ⟨_, rfl⟩
              have HAL := Lib.hid hal
              have HLF : Hid (leafR c (fk F k) (q.2 k) ↔ al = true) := by
                show _ ↔ _
                unfold leafR
                rw [HNL.out, HSV.out, HAL.out]
                exact ⟨fun h => h.2, fun h => ⟨HNZ.out, h⟩⟩
              have HC6 : Hid (Calls Tryd.prog 96 #[.agg #[.slice A1 c.weights.length c1, .slice A2 c.tests.length c2], .slice As (bitsI s).length cs] W2 fun e w' => e = .returned (.bool al) ∧ Below W2.heap.size W2 w') := rsame_any A1 A2 c1 c2 c As cs s W2 (HC.out W2 HB2.out).1 HCB.out HS2.out HI6.out HAL.out
              clear hnz hal
              rcases al with _ | _
              · have HNO : Hid (rrightB c F = false) := rright_no hlt HS.out (by rw [HFK.out, if_neg (fun h => Bool.noConfusion (HLF.out.1 h))])
                go_wp2_with (go_at_call 96; refine HC6.out.mono ?_; rintro e w7 ⟨rfl, hb7⟩)
                go_ret
                exact ⟨ret_b (by rw [← HR.out, HNO.out]), (hb1.trans (HB2.out.mono (by omega))).trans (hb7.mono (by omega))⟩
              · have HYES : Hid (rTo c F (k + 1) = some q) := by show _ = _; rw [rTo_succ HS.out, HFK.out, if_pos (HLF.out.2 rfl)]
                go_wp2_with (go_at_call 96; refine HC6.out.mono ?_; rintro e w7 ⟨rfl, hb7⟩; have HB7 := Lib.hid hb7; clear hb7)
                go_roundw
                case rel => exact ⟨k + 1, q, by omega, by go_num, HYES.out, HO2.out.below HB7.out (by omega), HB2.out.trans (HB7.out.mono (by omega))⟩
                case measure => simp [intOf]; omega
            · have HNO : Hid (rrightB c F = false) := rright_no hlt HS.out (by rw [HFK.out, if_neg (fun h => hnz (by rw [← HNL.out]; exact h.1))])
              obtain ⟨m, hm⟩ : ∃ m, nl.length = m := ⟨_, rfl⟩
              rw [hm] at d1 hnz hnlen
              have hm0 : 0 < m := by omega
              clear hnz hm hcn
              go_wp2_with fail
              go_ret
              exact ⟨ret_b (by rw [← HR.out, HNO.out]), hb1.trans (HB2.out.mono (by omega))⟩
          · have HFK := Lib.hid (rfork_node (c := c) HNF.out (by rw [HTV.out]; exact ht))
            have e1 : (tv == -1) = false := by simpa using ht
            have hm12 := HOK.out.t
            have hwr : IntKind.i64.wrap ((c.tests.length : Int) - 1) = (c.tests.length : Int) - 1 := IntWalk.i64_in _ (by omega)
            clear ht
            obtain ⟨bt, hbt⟩ : ∃ bt, inB tv 0 ((c.tests.length : Int) - 1) = bt := ⟨_, rfl⟩
            have HBT := Lib.hid hbt
            clear hbt
            by_cases hz4 : bt = true ∧ nl.length = 4
            rotate_left
            · have HNO : Hid (rrightB c F = false) := rright_no hlt HS.out (by
                rw [HFK.out, if_neg]
                rintro ⟨h1, h2, h3, _⟩
                rw [HTV.out] at h1 h2
                rw [HNL.out] at h3
                refine hz4 ⟨?_, h3⟩
                rw [← HBT.out]
                exact inB_iff'.2 (by omega))
              rcases bt with _ | _
              · clear hz4
                go_wp2_with (go_at_call 63; refine (rwithin_b _ _ _ _ _ HBT.out).mono ?_; rintro e w7 ⟨rfl, rfl⟩)
                go_ret
                exact ⟨ret_b (by rw [← HR.out, HNO.out]), hb1.trans (HB2.out.mono (by omega))⟩
              · obtain ⟨m, hm⟩ : ∃ m, nl.length = m := ⟨_, rfl⟩
                rw [hm] at d1 hz4 hnlen
                have e4 : ((m : Int) != 4) = true := by
                  rw [bne_iff_ne]
                  intro e
                  exact hz4 ⟨rfl, by omega⟩
                clear hz4 hm hcn
                go_wp2_with (go_at_call 63; refine (rwithin_b _ _ _ _ _ HBT.out).mono ?_; rintro e w7 ⟨rfl, rfl⟩)
                go_ret
                exact ⟨ret_b (by rw [← HR.out, HNO.out]), hb1.trans (HB2.out.mono (by omega))⟩
            · obtain ⟨rfl, hz4⟩ := hz4
              rw [hz4] at d1
              have htr := inB_iff'.1 HBT.out
              obtain ⟨tn, htn⟩ : ∃ tn : Nat, tv = (tn : Int) := ⟨tv.toNat, by omega⟩
              subst htn
              have htl : tn < c.tests.length := by omega
              obtain ⟨t, htt⟩ : ∃ t, c.tests[tn]? = some t := ⟨_, List.getElem?_eq_getElem htl⟩
              have HTA : Hid (testAt c (tn : Int) = t) := by
                show _ = _
                unfold testAt
                rw [Int.toNat_natCast, List.getD_eq_getElem?_getD, htt]
                rfl
              obtain ⟨X, hX⟩ : ∃ X : NN, partS t.outs s = X := ⟨_, rfl⟩
              obtain ⟨R, hRR⟩ : ∃ R, partsTo t.outs s 4 = R := ⟨_, rfl⟩
              have HX := Lib.hid hX
              have HRR := Lib.hid hRR
              have HSP : Hid (Calls Tryd.prog 98 #[.agg #[.slice A1 c.weights.length c1, .slice A2 c.tests.length c2], .slice As (bitsI s).length cs, .int .i64 tn] W2 fun e w' => (∃ v, e = .returned v ∧ OutRR w' W2.heap.size v (partsI t.outs s)) ∧ Below W2.heap.size W2 w') := rsplit_any A1 A2 c1 c2 c As cs s tn t W2 (HC.out W2 HB2.out).1 HOK.out HS2.out HI6.out htt
              have hR4 : R ≤ 4 := by rw [← hRR]; exact partsTo_le _ _ _
              have HFR : Hid (forkR c (fk F k) (q.2 k) ↔ 2 ≤ R) := by
                show _ ↔ _
                unfold forkR
                rw [HTV.out, HNL.out, HSV.out, HTA.out, HRR.out]
                exact ⟨fun h => h.2.2.2, fun h => ⟨by omega, by omega, by omega, h⟩⟩
              clear hX hRR htt htr
              go_upto_region 16 with (first | (go_at_call 63; refine (rwithin_b _ _ _ _ _ HBT.out).mono ?_; rintro e w7 ⟨rfl, rfl⟩) | (go_at_call 98; refine HSP.out.mono ?_; rintro e w8 ⟨⟨v8, rfl, hO8⟩, hb8⟩; have HR8 := Lib.hid hO8; have HB8 := Lib.hid hb8; clear hO8 hb8))
              obtain ⟨A8, c8, hv8, _⟩ := HR8.out.lenV
              rw [partsI_len] at hv8
              subst hv8
              have HRO8 := Lib.hid (HR8.out.rows (by rw [partsI_len]; unfold maxLen; omega))
              obtain ⟨⟨_, x1, _⟩, hM8, hb18, hn8, _⟩ := HK.out w8 HB8.out
              have HM8 := Lib.hid hM8
              have HB18 := Lib.hid hb18
              have HN8 := Lib.hid hn8
              rw [hz4] at x1
              have hs8 := HB8.out.size
              have HP9 : Hid (Calls Tryd.prog 99 #[.slice A8 4 c8] w8 fun e w' => e = .returned (.int .i64 R) ∧ Below w8.heap.size w8 w') := rparts_any A8 c8 t.outs s w8 HRO8.out HRR.out
              clear hM8 hb18 hn8 HB8 HN6 HI6 HSP d0 d1 d2 p0 p1
              by_cases h2R : R < 2
              · have HNO : Hid (rrightB c F = false) := rright_no hlt HS.out (by rw [HFK.out, if_neg (fun h => by have := HFR.out.1 h; omega)])
                have e5 : decide ((R : Int) < 2) = true := decide_eq_true (by omega)
                clear h2R
                go_wp2_with (go_at_call 99; refine HP9.out.mono ?_; rintro e w9 ⟨rfl, hb9⟩)
                go_ret
                exact ⟨ret_b (by rw [← HR.out, HNO.out]), (hb1.trans (HB18.out.mono (by omega))).trans (hb9.mono (by omega))⟩
              · have e5 : decide ((R : Int) < 2) = false := decide_eq_false (by omega)
                have HFK2 : Hid (rTo c F (k + 1) = rKids F k X nl 4 q) := by
                  show _ = _
                  rw [rTo_succ HS.out, HFK.out, if_pos (HFR.out.2 (by omega)), HTV.out, HTA.out, HSV.out, HX.out, HNL.out]
                clear h2R
                go_wp2_with (go_at_call 99; refine HP9.out.mono ?_; rintro e w9 ⟨rfl, hb9⟩; have HB9 := Lib.hid hb9; clear hb9)
                have HB19 : Hid (Below (w.heap.size + 1) (w.alloc (.cells #[.slice A1 c.weights.length c1, .slice A2 c.tests.length c2] 36)) w9) := HB18.out.trans (HB9.out.mono (by omega))
                have HM9 : Hid (ManyF w9 g F.length q.1) := HM8.out.below HB9.out (by omega)
                have HN9 : Hid (IntsA w9 w.heap.size An nl) := HN8.out.keep (HB9.out.mono (by omega))
                have x9 : w9.cell? ⟨tp, 1, none⟩ = some (.slice An 4 cn) := (bcell HB9.out _ _ (by omega)).trans x1
                have HR9 : Hid (OutRR w9 W2.heap.size (.slice A8 4 c8) (partsI t.outs s)) := HR8.out.keep fun b _ hb => HB9.out.block b hb
                have hs9 := HB9.out.size
                have HMB : Hid (∀ j, q.1 j ≤ k * 4) := rTo_many HS.out
                clear x1 HP9 HB9 HB18 HM8 HN8 HR8 HRO8
                go_loopw [9] (fun vi wx => ∃ (o : Nat) (q' : NN × NN), o ≤ 4 ∧ vi = .int .i64 o ∧ Hid (rKids F k X nl o q = some q') ∧ Hid (ManyF wx g F.length q'.1) ∧ Hid (Keep1 g w9 wx)) (fun vi _ => 4 - (intOf vi).toNat)
                case atStart => exact ⟨0, q, by omega, rfl, rfl, HM9.out, Keep1.refl _ _⟩
                case round =>
                  obtain ⟨o, q', ho4, rfl, HS', HO', HKP⟩ := hrel
                  rename World => wx
                  have hgx := OwnF.lt HO'.out
                  have hsx := HKP.out.bel.size
                  have HBx : Hid (Below (w.heap.size + 1) (w.alloc (.cells #[.slice A1 c.weights.length c1, .slice A2 c.tests.length c2] 36)) wx) := HB19.out.trans (HKP.out.bel.mono (by omega))
                  by_cases ho : o < 4
                  rotate_left
                  · obtain rfl : o = 4 := by omega
                    go_wp2_with fail
                    go_roundw
                    case rel => exact ⟨k + 1, q', by omega, by go_num, by rw [HFK2.out]; exact HS'.out, HO'.out, HBx.out⟩
                    case measure => simp [intOf]; omega
                  · have HRx : Hid (OutRR wx W2.heap.size (.slice A8 4 c8) (partsI t.outs s)) := HR9.out.keep fun b h1 h2 => HKP.out.oth b (by omega) h2
                    have x9' := (HKP.out.cell (b := tp) (o := 1) (by omega) (by omega)).trans x9
                    obtain ⟨nb, no, hAn, hnb, n0⟩ := (HN9.out.keep (HKP.out.bel.mono (by omega))).at_ (show o < nl.length by rw [hz4]; exact ho)
                    rw [hAn] at x9'
                    obtain ⟨row, rb, ro, Ap, cp, hrow, hA8, hrb, r0, _, hIp⟩ := (HRx.out.rows (by rw [partsI_len]; unfold maxLen; omega)).at_ (show o < (partsI t.outs s).length by rw [partsI_len]; exact ho)
                    have hrw : row = bitsI (X o) := by
                      rw [← HX.out, ← partsI_at (outs := t.outs) (s := s) ho, List.getD_eq_getElem?_getD, hrow]
                      rfl
                    subst hrw
                    subst hA8
                    obtain ⟨nv, hnv⟩ : ∃ nv, nl.getD o 0 = nv := ⟨_, rfl⟩
                    have HKS := Lib.hid (rKids_succ HS'.out)
                    rw [hnv] at n0 HKS
                    obtain ⟨x, hx⟩ : ∃ x, X o = x := ⟨_, rfl⟩
                    rw [hx] at r0 hIp HKS
                    have HFAIL : Hid (rKid F k x nv q' = none → rrightB c F = false) := fun h => by
                      refine rright_no hlt HS.out ?_
                      rw [← rTo_succ HS.out, HFK2.out]
                      exact rKids_none (HKS.out.trans h) (by omega)
                    have hx12 : x < 4096 := by
                      rw [← hx, ← HX.out]
                      exact partS_lt _ _ _
                    have HIP := Lib.hid hIp
                    have hbl := bitsI_len x
                    have ho4' : (o : Int) < 4 := by omega
                    clear hnv hx hrow hAn hIp
                    by_cases hx0 : x = 0
                    · have hl0 : (bitsI x).length = 0 := by rw [hx0]; rfl
                      rw [hl0] at r0
                      by_cases hv : nv = -1
                      · have ev : (nv != -1) = false := by rw [hv]; rfl
                        have HNEXT : Hid (rKids F k X nl (o + 1) q = some q') := by
                          show _ = _
                          rw [HKS.out]
                          unfold rKid
                          rw [if_pos hx0, if_pos hv]
                        clear hx0 hv hl0
                        go_wp2_with fail
                        go_roundw
                        case rel => exact ⟨o + 1, q', by omega, by go_num, HNEXT.out, HO'.out, HKP.out⟩
                        case measure => simp [intOf]; omega
                      · have ev : (nv != -1) = true := by simpa using hv
                        have HNO : Hid (rrightB c F = false) := HFAIL.out (by unfold rKid; rw [if_pos hx0, if_neg hv])
                        clear hx0 hv hl0
                        go_wp2_with fail
                        go_ret
                        exact ⟨ret_b (by rw [← HR.out, HNO.out]), hb1.trans (HBx.out.mono (by omega))⟩
                    · have hlp : 0 < (bitsI x).length := (bitsI_pos hx12).2 (by omega)
                      have el : (((bitsI x).length : Int) == 0) = false := by
                        rw [beq_eq_false_iff_ne]
                        omega
                      have hw1 : IntKind.i64.wrap ((F.length : Int) - 1) = (F.length : Int) - 1 := IntWalk.i64_in _ (by omega)
                      have hw2 : IntKind.i64.wrap ((k : Int) + 1) = (k : Int) + 1 := IntWalk.i64_in _ (by omega)
                      rcases hbt : inB nv ((k : Int) + 1) ((F.length : Int) - 1)
                      · have HBN := Lib.hid hbt
                        have HNO : Hid (rrightB c F = false) := HFAIL.out (by
                          unfold rKid
                          rw [if_neg hx0, if_neg]
                          rintro ⟨⟨h1, h2⟩, _⟩
                          rw [inB_iff'.2 ⟨h1, h2⟩] at hbt
                          cases hbt)
                        clear hx0 hbt
                        go_wp2_with fail
                        go_quiet ((go_at_call 63; exact quiet_w (rwithin_b _ _ _ _ _ HBN.out)))
                        go_wp2_with fail
                        go_ret
                        exact ⟨ret_b (by rw [← HR.out, HNO.out]), (Below.drewn (hb1.trans (HBx.out.mono (by omega))) _)⟩
                      · have HBN := Lib.hid hbt
                        have hnn := inB_iff'.1 hbt
                        obtain ⟨m, hm⟩ : ∃ m : Nat, nv = (m : Int) := ⟨nv.toNat, by omega⟩
                        subst hm
                        have hml : m < F.length := by omega
                        have HNN2 : Hid (inN k F.length (m : Int)) := ⟨hnn.1, hnn.2⟩
                        obtain ⟨fb', fo', Am, cm, Bs, ds, hA, _, _, _, f2, _, _, _, hIm⟩ := (HC.out wx HBx.out).2.at_ hml
                        injection hA with hA
                        injection hA with e1' e2'
                        subst e1'; subst e2'
                        obtain ⟨sm, hsm⟩ : ∃ sm, (fk F m).set = sm := ⟨_, rfl⟩
                        rw [hsm] at f2 hIm
                        have HSM := Lib.hid hsm
                        obtain ⟨rx, hrx⟩ : ∃ rx, decide (sm = bitsI x) = rx := ⟨_, rfl⟩
                        have HRX := Lib.hid hrx
                        have HIM := Lib.hid hIm
                        have H63 : Hid (∀ s : BW wx.heap.size wx, Calls Tryd.prog 63 #[.int .i64 m, .int .i64 ((k : Int) + 1), .int .i64 ((F.length : Int) - 1)] s.1 fun e w' => e = .returned (.bool true) ∧ Below s.1.heap.size s.1 w') := fun s => (rwithin_b _ _ _ _ _ HBN.out).mono fun _ _ ⟨h1, h2⟩ => ⟨h1, h2 ▸ Below.refl _ _⟩
                        have H109 : Hid (∀ s : BW wx.heap.size wx, Calls Tryd.prog 109 #[.slice Bs sm.length ds, .slice Ap (bitsI x).length cp] s.1 fun e w' => e = .returned (.bool rx) ∧ Below s.1.heap.size s.1 w') := fun s => rsame_ints Bs Ap ds cp sm (bitsI x) s.1 ((HIM.out.more (by omega)).keep s.2 |>.more s.2.size) (HIP.out.keep s.2 |>.more s.2.size) HRX.out
                        have hmi : (m : Int) < F.length := by omega
                        clear hbt hsm hrx hIm hnn
                        go_wp2_with fail
                        have g1 := BW.cell (B := wx.heap.size) (show fb < wx.heap.size by omega) f2
                        have g2 := BW.cell (B := wx.heap.size) hrb r0
                        refine wp_region_below wx.heap.size wx (Below.refl _ _) (by kernel_rfl) (by kernel_rfl) ?_
                        repeat (go_big_quiet_step (first | (go_at_call 63; exact quiet_below (Nat.le_refl _) (H63.out _)) | (go_at_call 109; exact quiet_below (Nat.le_refl _) (H109.out _))))
                        refine wpQuiet_nil ?_
                        intro s'
                        have HB5 := Lib.hid s'.2
                        generalize s'.1 = w10 at *
                        have hs10 := HB5.out.size
                        have HM10 : Hid (ManyF w10 g F.length q'.1) := HO'.out.below HB5.out (by omega)
                        have HK10 : Hid (Keep1 g w9 w10) := HKP.out.then_ (by omega) HB5.out
                        clear g1 g2 H63 H109 f2 r0 n0 x9'
                        rcases rx with _ | _
                        · have HNO : Hid (rrightB c F = false) := HFAIL.out (by
                            unfold rKid
                            rw [if_neg hx0, if_neg]
                            rintro ⟨_, h2⟩
                            rw [Int.toNat_natCast, HSM.out] at h2
                            exact of_decide_eq_false HRX.out h2)
                          clear hx0
                          go_wp2_with fail
                          go_ret
                          exact ⟨ret_b (by rw [← HR.out, HNO.out]), hb1.trans ((HB19.out.trans (HK10.out.bel.mono (by omega))).mono (by omega))⟩
                        · have s0 := OwnF.cell HM10.out hml
                          have sf := OwnF.frozen HM10.out m
                          have hmb := rKids_many HS'.out HMB.out m
                          obtain ⟨y, hy⟩ : ∃ y, q'.1 m = y := ⟨_, rfl⟩
                          rw [hy] at s0 hmb
                          have HY := Lib.hid hy
                          have hw3 : IntKind.i64.wrap ((y : Int) + 1) = (((y + 1 : Nat)) : Int) := by rw [IntWalk.i64_in _ (by omega)]; omega
                          have HNEXT : Hid (rKids F k X nl (o + 1) q = some (updN q'.1 m (y + 1), updN q'.2 m x)) := by
                            show _ = _
                            rw [HKS.out]
                            unfold rKid
                            rw [if_neg hx0, if_pos ⟨HNN2.out, by rw [Int.toNat_natCast, HSM.out]; exact of_decide_eq_true HRX.out⟩, Int.toNat_natCast, hy]
                          clear hx0 hy
                          go_wp2_with fail
                          go_roundw
                          case rel => exact ⟨o + 1, _, by omega, by go_num, HNEXT.out, HM10.out.put m (y + 1), HK10.out.set m _⟩
                          case measure => simp [intOf]; omega
end Go.Proofs.YtonpemikodajdaaDoor
