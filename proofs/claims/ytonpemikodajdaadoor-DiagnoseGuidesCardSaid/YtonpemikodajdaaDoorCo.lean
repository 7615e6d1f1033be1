/- Walks: Cost, by the program and by the reference. -/
import Derived.Test.YtonpemikodajdaaDoorCk
namespace Go.Proofs.YtonpemikodajdaaDoor
open Go.RowKit

set_option maxRecDepth 100000 in
set_option maxHeartbeats 4000000 in
theorem pCost_any (A1 A2 : Option Addr) (c1 c2 : Nat) (c : MCase) (A : Option Addr) (cap : Nat) (F : List MFork) (w : World) (h : CaseA w w.heap.size A1 A2 c) (hT : TabW w) (hF : ForksA w w.heap.size A F) {E r : Int} (hE : guideE c F = E) (hr : costE c F = r) :
    Calls Tryd.prog 38 #[.agg #[.slice A1 c.weights.length c1, .slice A2 c.tests.length c2], .slice A F.length cap] w fun e w' => e = .returned (.tuple #[.int .i64 r, .int .i64 E]) ∧ Below w.heap.size w w' := by
  have hb1 : Below w.heap.size w (w.alloc (.cells #[.slice A1 c.weights.length c1, .slice A2 c.tests.length c2] 36)) := (Below.refl _ _).alloc (Nat.le_refl _) _
  have hsz : (w.alloc (.cells #[.slice A1 c.weights.length c1, .slice A2 c.tests.length c2] 36)).heap.size = w.heap.size + 1 := by simp
  have n0 := newcell w #[.slice A1 c.weights.length c1, .slice A2 c.tests.length c2] 36 0
  have n1 := newcell w #[.slice A1 c.weights.length c1, .slice A2 c.tests.length c2] 36 1
  simp only [List.getElem?_toArray, List.getElem?_cons_succ, List.getElem?_cons_zero] at n0 n1
  have HN : Hid (∀ wx, Below (w.heap.size + 1) (w.alloc (.cells #[.slice A1 c.weights.length c1, .slice A2 c.tests.length c2] 36)) wx → wx.cell? ⟨w.heap.size, 0, none⟩ = some (.slice A1 c.weights.length c1) ∧ wx.cell? ⟨w.heap.size, 1, none⟩ = some (.slice A2 c.tests.length c2)) := fun wx hb => ⟨(bcell hb _ _ (by omega)).trans n0, (bcell hb _ _ (by omega)).trans n1⟩
  have HG := Lib.hid (cguide_any A1 A2 c1 c2 c A cap F (w.alloc (.cells #[.slice A1 c.weights.length c1, .slice A2 c.tests.length c2] 36)) ((h.keep hb1).more hb1.size) (hT.keep hb1) ((hF.keep hb1).more hb1.size) hE)
  rcases guideE_cases c F with ⟨h0, hcb, hrb⟩ | ⟨h0, h1⟩
  rotate_left
  · have hr0 : r = 0 := by rw [← hr]; unfold costE; rw [if_neg h0]
    rw [hE] at h0 h1
    subst hr0
    clear hE hr h0
    rcases h1 with rfl | rfl
    all_goals
      go_enter Tryd.func38, Tryd.ntmps38
      go_wp2_with (go_at_call 40; refine HG.out.mono ?_; rintro e w2 ⟨rfl, hb2⟩)
      go_ret2
      exact ⟨rfl, hb1.trans (hb2.mono (by omega))⟩
  · have hok := caseOk hcb
    have hn1 := hok.n1
    have hn2 := hok.n2
    have hm12 := hok.t
    obtain rfl : E = 0 := hE.symm.trans h0
    have HR : Hid (costTo c F c.weights.length = r) := by show _ = _; rw [← hr]; unfold costE; rw [if_pos h0]
    obtain ⟨S, hT2, hS⟩ := tree_ok hok hrb
    have HWK : Hid (∀ wx, Below (w.heap.size + 1) (w.alloc (.cells #[.slice A1 c.weights.length c1, .slice A2 c.tests.length c2] 36)) wx → CaseA wx wx.heap.size A1 A2 c ∧ ForksA wx wx.heap.size A F) := fun wx hb => by
      have hbw := hb1.trans (hb.mono (by omega))
      exact ⟨(h.keep hbw).more hbw.size, (hF.keep hbw).more hbw.size⟩
    have HCW : Hid (∀ (k : Nat) wx, k < c.weights.length → Below (w.heap.size + 1) (w.alloc (.cells #[.slice A1 c.weights.length c1, .slice A2 c.tests.length c2] 36)) wx → Calls Tryd.prog 75 #[.agg #[.slice A1 c.weights.length c1, .slice A2 c.tests.length c2], .slice A F.length cap, .int .i64 k] wx (WalkPost wx F (walkT c F k) (leafT c F k))) := fun k wx hk hb => walk_any A1 A2 c1 c2 c A cap F S k (leafT c F k) (walkT c F k) wx (HWK.out wx hb).1 hok (HWK.out wx hb).2 hT2 hS (by rw [hT2.root]; exact full_bit hk) (walk_all hok hT2 hS hk).w
    have HBD : Hid (∀ k, k ≤ c.weights.length → 0 ≤ costTo c F k ∧ costTo c F k ≤ 60000000000) := fun k hk => by
      have := costTo_bd hok hT2 hS k hk
      omega
    have HWY : Hid (∀ k, k < c.weights.length → WalkOk c F S k) := fun k hk => walk_all hok hT2 hS hk
    have HOK := Lib.hid hok
    clear hE hr h0 hcb hrb hok hT2 hS n0 n1
    go_enter Tryd.func38, Tryd.ntmps38
    go_wp2_with (go_at_call 40; refine HG.out.mono ?_; rintro e w2 ⟨rfl, hb2⟩; have HB2 : Hid (Below (w.heap.size + 1) (w.alloc (.cells #[.slice A1 c.weights.length c1, .slice A2 c.tests.length c2] 36)) w2) := hb2.mono (by omega); obtain ⟨p0, p1⟩ := HN.out w2 HB2.out; clear hb2)
    go_loopw [22, 4] (fun vi vs wr => ∃ (k : Nat) (p : Int), k ≤ c.weights.length ∧ vi = .int .i64 k ∧ vs = .int .i64 p ∧ Hid (p = costTo c F k) ∧ Hid (Below (w.heap.size + 1) (w.alloc (.cells #[.slice A1 c.weights.length c1, .slice A2 c.tests.length c2] 36)) wr)) (fun vi _ _ => c.weights.length - (intOf vi).toNat)
    case atStart => exact ⟨0, 0, Nat.zero_le _, rfl, rfl, rfl, HB2.out⟩
    case round =>
      clear p0 p1 HB2 HG
      obtain ⟨k, p, hk, rfl, rfl, HP, HB⟩ := hrel
      rename World => wr
      obtain ⟨p0, p1⟩ := HN.out wr HB.out
      by_cases hlt : k < c.weights.length
      rotate_left
      · obtain rfl : k = c.weights.length := by omega
        go_wp2_with fail
        go_ret2
        exact ⟨by rw [← HR.out, ← HP.out]; rfl, hb1.trans (HB.out.mono (by omega))⟩
      · obtain ⟨xb, xo, hA1, hxb, x0⟩ := (HWK.out wr HB.out).1.ws.at_ hlt
        have hx := HOK.out.w k hlt
        obtain ⟨x, hxe⟩ : ∃ x, c.weights.getD k 0 = x := ⟨_, rfl⟩
        have hwy := HWY.out k hlt
        have hbk := HBD.out k hk
        have hbk2 : ∀ q, 0 ≤ payI c x ((walkT c F k).take q) ∧ payI c x ((walkT c F k).take q) ≤ 5000000000 := fun q => payI_take HOK.out (by rw [← hxe]; exact hx) hwy.t hwy.n q
        rw [hxe] at x0 hx
        have HCK : Hid (Calls Tryd.prog 75 #[.agg #[.slice A1 c.weights.length c1, .slice A2 c.tests.length c2], .slice A F.length cap, .int .i64 k] wr (WalkPost wr F (walkT c F k) (leafT c F k))) := HCW.out k wr hlt HB.out
        have HST : Hid (costTo c F (k + 1) = costTo c F k + payI c x (walkT c F k)) := by show _ = _; rw [costTo, hxe]
        have hln := hwy.n
        have HTT : Hid (∀ t ∈ walkT c F k, ∃ i : Nat, t = (i : Int) ∧ i < c.tests.length) := hwy.t
        rw [← HP.out] at hbk
        have HBK2 := Lib.hid hbk2
        rw [← HP.out] at HST
        have HWX := Lib.hid hxe
        clear hwy hbk2 hxe
        generalize walkT c F k = L at *
        generalize leafT c F k = j at *
        subst hA1
        go_wp2_with (go_at_call 75; refine HCK.out.mono ?_; rintro e w4 ⟨v4, An, cn, As, cs, rfl, hO4, _, _, hb4⟩; have HO4 := Lib.hid hO4; obtain ⟨Av, cv, hv4, hcv, _⟩ := HO4.out.reads; subst hv4; have HB4 := Lib.hid hb4; clear hO4 hb4 hcv)
        have hs4 := HB4.out.size
        have hsr := HB.out.size
        rw [hsz] at hsr
        obtain ⟨ti, hti⟩ : ∃ ti, (fk F j).test = ti := ⟨_, rfl⟩
        obtain ⟨ni, hni⟩ : ∃ ni, (fk F j).next.length = ni := ⟨_, rfl⟩
        obtain ⟨si, hsi⟩ : ∃ si, (fk F j).set.length = si := ⟨_, rfl⟩
        rw [hti, hni, hsi]
        have HB5 : Hid (Below (w.heap.size + 1) (w.alloc (.cells #[.slice (some ⟨xb, xo, none⟩) c.weights.length c1, .slice A2 c.tests.length c2] 36)) (w4.alloc (.cells #[.int .i64 ti, .slice An ni cn, .slice As si cs] 110))) := (HB.out.trans (HB4.out.mono (by omega))).alloc (by omega) _
        have HO5 : Hid (OutI (w4.alloc (.cells #[.int .i64 ti, .slice An ni cn, .slice As si cs] 110)) wr.heap.size (.slice Av L.length cv) L) := World.ownsRow.alloc HO4.out _
        clear hti hni hsi HCK HO4 HB4
        have hs5 : w.heap.size + 1 ≤ (w4.alloc (.cells #[.int .i64 ti, .slice An ni cn, .slice As si cs] 110)).heap.size := by simp; omega
        generalize (w4.alloc (.cells #[.int .i64 ti, .slice An ni cn, .slice As si cs] 110)) = w5 at *
        go_loopw [36, 4] (fun vi vs wx => ∃ (q : Nat) (m : Int), q ≤ L.length ∧ vi = .int .i64 q ∧ vs = .int .i64 m ∧ Hid (m = p + payI c x (L.take q)) ∧ Hid (Below w5.heap.size w5 wx)) (fun vi _ _ => L.length - (intOf vi).toNat)
        case atStart => exact ⟨0, p, Nat.zero_le _, rfl, rfl, (Int.add_zero p).symm, Below.refl _ _⟩
        case round =>
          clear p0 p1 x0
          obtain ⟨q, m, hq, rfl, rfl, HM, HBX⟩ := hrel
          rename World => wx
          have HBY : Hid (Below (w.heap.size + 1) (w.alloc (.cells #[.slice (some ⟨xb, xo, none⟩) c.weights.length c1, .slice A2 c.tests.length c2] 36)) wx) := HB5.out.trans (HBX.out.mono hs5)
          by_cases hql : q < L.length
          rotate_left
          · obtain rfl : q = L.length := by omega
            go_wp2_with fail
            go_roundw
            case rel => exact ⟨k + 1, _, by omega, by go_num, rfl, by show _ = _; rw [HST.out, HM.out, List.take_length], HBY.out⟩
            case measure => simp [intOf]; omega
          · obtain ⟨p0, p1⟩ := HN.out wx HBY.out
            obtain ⟨lb, hlA, _, hlb, l0⟩ := HO5.out.at_ rfl hql
            have l0 := (bcell HBX.out _ _ hlb).trans l0
            obtain ⟨tt, htt, htl⟩ := HTT.out (L.getD q 0) (by rw [List.getD_eq_getElem?_getD, List.getElem?_eq_getElem hql]; exact List.getElem_mem hql)
            have hpay := payI_succ (c := c) (n := x) hql
            rw [htt] at l0 hpay
            obtain ⟨t, tb, tf, Ap, cp, htp, hA2, htb, m0, m1, _, _⟩ := (HWK.out wx HBY.out).1.ts.at_ htl
            obtain ⟨xb', xo', hA1, hxb', x0⟩ := (HWK.out wx HBY.out).1.ws.at_ hlt
            rw [HWX.out] at x0
            rw [testAt_of htp] at hpay
            have hy := (HOK.out.p tt t htp).1
            obtain ⟨y, hye⟩ : ∃ y, t.cost = y := ⟨_, rfl⟩
            rw [hye] at hpay m0 hy
            obtain ⟨z, hz⟩ : ∃ z, x * y = z := ⟨_, rfl⟩
            have hzb := mul_small hx hy
            have hmb := HBK2.out q
            have HMM := HM.out
            rw [hz] at hzb hpay
            have e1 : IntKind.i64.wrap (x * y) = z := by rw [hz]; exact IntWalk.i64_in _ (by omega)
            have e2 : IntKind.i64.wrap (m + z) = m + z := IntWalk.i64_in _ (by omega)
            have HNX : Hid (m + z = p + payI c x (L.take (q + 1))) := by show _ = _; rw [hpay, HMM, Int.add_assoc]
            rw [hlA]
            rw [hA2] at p1
            injection hA1 with hA1
            injection hA1 with e5 e6
            subst e5
            subst e6
            clear hpay hz hye HMM htp hA2 hlA htt hmb
            go_wp2_with fail
            go_roundw
            case rel => exact ⟨q + 1, _, by omega, by go_num, rfl, HNX.out, HBX.out⟩
            case measure => simp [intOf]; omega

set_option maxRecDepth 100000 in
set_option maxHeartbeats 4000000 in
theorem rCost_any (A1 A2 : Option Addr) (c1 c2 : Nat) (c : MCase) (A : Option Addr) (cap : Nat) (F : List MFork) (w : World) (h : CaseA w w.heap.size A1 A2 c) (hF : ForksA w w.heap.size A F) {E r : Int} (hE : guideE c F = E) (hr : costE c F = r) :
    Calls Tryd.prog 42 #[.agg #[.slice A1 c.weights.length c1, .slice A2 c.tests.length c2], .slice A F.length cap] w fun e w' => e = .returned (.tuple #[.int .i64 r, .int .i64 E]) ∧ Below w.heap.size w w' := by
  have hb1 : Below w.heap.size w (w.alloc (.cells #[.slice A1 c.weights.length c1, .slice A2 c.tests.length c2] 36)) := (Below.refl _ _).alloc (Nat.le_refl _) _
  have hsz : (w.alloc (.cells #[.slice A1 c.weights.length c1, .slice A2 c.tests.length c2] 36)).heap.size = w.heap.size + 1 := by simp
  have n0 := newcell w #[.slice A1 c.weights.length c1, .slice A2 c.tests.length c2] 36 0
  have n1 := newcell w #[.slice A1 c.weights.length c1, .slice A2 c.tests.length c2] 36 1
  simp only [List.getElem?_toArray, List.getElem?_cons_succ, List.getElem?_cons_zero] at n0 n1
  have HN : Hid (∀ wx, Below (w.heap.size + 1) (w.alloc (.cells #[.slice A1 c.weights.length c1, .slice A2 c.tests.length c2] 36)) wx → wx.cell? ⟨w.heap.size, 0, none⟩ = some (.slice A1 c.weights.length c1) ∧ wx.cell? ⟨w.heap.size, 1, none⟩ = some (.slice A2 c.tests.length c2)) := fun wx hb => ⟨(bcell hb _ _ (by omega)).trans n0, (bcell hb _ _ (by omega)).trans n1⟩
  have HG := Lib.hid (rcguide_any A1 A2 c1 c2 c A cap F (w.alloc (.cells #[.slice A1 c.weights.length c1, .slice A2 c.tests.length c2] 36)) ((h.keep hb1).more hb1.size) ((hF.keep hb1).more hb1.size) hE)
  rcases guideE_cases c F with ⟨h0, hcb, hrb⟩ | ⟨h0, h1⟩
  rotate_left
  · have hr0 : r = 0 := by rw [← hr]; unfold costE; rw [if_neg h0]
    rw [hE] at h0 h1
    subst hr0
    clear hE hr h0
    rcases h1 with rfl | rfl
    all_goals
      go_enter Tryd.func42, Tryd.ntmps42
      go_wp2_with (go_at_call 41; refine HG.out.mono ?_; rintro e w2 ⟨rfl, hb2⟩)
      go_ret2
      exact ⟨rfl, hb1.trans (hb2.mono (by omega))⟩
  · have hok := caseOk hcb
    have hn1 := hok.n1
    have hn2 := hok.n2
    have hm12 := hok.t
    obtain rfl : E = 0 := hE.symm.trans h0
    have HR : Hid (costTo c F c.weights.length = r) := by show _ = _; rw [← hr]; unfold costE; rw [if_pos h0]
    obtain ⟨S, hT2, hS⟩ := tree_ok hok hrb
    have HWK : Hid (∀ wx, Below (w.heap.size + 1) (w.alloc (.cells #[.slice A1 c.weights.length c1, .slice A2 c.tests.length c2] 36)) wx → CaseA wx wx.heap.size A1 A2 c ∧ ForksA wx wx.heap.size A F) := fun wx hb => by
      have hbw := hb1.trans (hb.mono (by omega))
      exact ⟨(h.keep hbw).more hbw.size, (hF.keep hbw).more hbw.size⟩
    have HCW : Hid (∀ (k : Nat) wx, k < c.weights.length → Below (w.heap.size + 1) (w.alloc (.cells #[.slice A1 c.weights.length c1, .slice A2 c.tests.length c2] 36)) wx → Calls Tryd.prog 78 #[.agg #[.slice A1 c.weights.length c1, .slice A2 c.tests.length c2], .slice A F.length cap, .int .i64 k] wx (WalkPost wx F (walkT c F k) (leafT c F k))) := fun k wx hk hb => rwalk_any A1 A2 c1 c2 c A cap F S k (leafT c F k) (walkT c F k) wx (HWK.out wx hb).1 hok (HWK.out wx hb).2 hT2 hS (by rw [hT2.root]; exact full_bit hk) (walk_all hok hT2 hS hk).w
    have HBD : Hid (∀ k, k ≤ c.weights.length → 0 ≤ costTo c F k ∧ costTo c F k ≤ 60000000000) := fun k hk => by
      have := costTo_bd hok hT2 hS k hk
      omega
    have HWY : Hid (∀ k, k < c.weights.length → WalkOk c F S k) := fun k hk => walk_all hok hT2 hS hk
    have HOK := Lib.hid hok
    clear hE hr h0 hcb hrb hok hT2 hS n0 n1
    go_enter Tryd.func42, Tryd.ntmps42
    go_wp2_with (go_at_call 41; refine HG.out.mono ?_; rintro e w2 ⟨rfl, hb2⟩; have HB2 : Hid (Below (w.heap.size + 1) (w.alloc (.cells #[.slice A1 c.weights.length c1, .slice A2 c.tests.length c2] 36)) w2) := hb2.mono (by omega); obtain ⟨p0, p1⟩ := HN.out w2 HB2.out; clear hb2)
    go_loopw [8, 7] (fun vi vs wr => ∃ (k : Nat) (p : Int), k ≤ c.weights.length ∧ vi = .int .i64 k ∧ vs = .int .i64 p ∧ Hid (p = costTo c F k) ∧ Hid (Below (w.heap.size + 1) (w.alloc (.cells #[.slice A1 c.weights.length c1, .slice A2 c.tests.length c2] 36)) wr)) (fun vi _ _ => c.weights.length - (intOf vi).toNat)
    case atStart => exact ⟨0, 0, Nat.zero_le _, rfl, rfl, rfl, HB2.out⟩
    case round =>
      clear p0 p1 HB2 HG
      obtain ⟨k, p, hk, rfl, rfl, HP, HB⟩ := hrel
      rename World => wr
      obtain ⟨p0, p1⟩ := HN.out wr HB.out
      by_cases hlt : k < c.weights.length
      rotate_left
      · obtain rfl : k = c.weights.length := by omega
        go_wp2_with fail
        go_ret2
        exact ⟨by rw [← HR.out, ← HP.out]; rfl, hb1.trans (HB.out.mono (by omega))⟩
      · obtain ⟨xb, xo, hA1, hxb, x0⟩ := (HWK.out wr HB.out).1.ws.at_ hlt
        have hx := HOK.out.w k hlt
        obtain ⟨x, hxe⟩ : ∃ x, c.weights.getD k 0 = x := ⟨_, rfl⟩
        have hwy := HWY.out k hlt
        have hbk := HBD.out k hk
        have hbk2 : ∀ q, 0 ≤ payI c x ((walkT c F k).take q) ∧ payI c x ((walkT c F k).take q) ≤ 5000000000 := fun q => payI_take HOK.out (by rw [← hxe]; exact hx) hwy.t hwy.n q
        rw [hxe] at x0 hx
        have HCK : Hid (Calls Tryd.prog 78 #[.agg #[.slice A1 c.weights.length c1, .slice A2 c.tests.length c2], .slice A F.length cap, .int .i64 k] wr (WalkPost wr F (walkT c F k) (leafT c F k))) := HCW.out k wr hlt HB.out
        have HST : Hid (costTo c F (k + 1) = costTo c F k + payI c x (walkT c F k)) := by show _ = _; rw [costTo, hxe]
        have hln := hwy.n
        have HTT : Hid (∀ t ∈ walkT c F k, ∃ i : Nat, t = (i : Int) ∧ i < c.tests.length) := hwy.t
        rw [← HP.out] at hbk
        have HBK2 := Lib.hid hbk2
        rw [← HP.out] at HST
        have HWX := Lib.hid hxe
        clear hwy hbk2 hxe
        generalize walkT c F k = L at *
        generalize leafT c F k = j at *
        subst hA1
        go_wp2_with (go_at_call 78; refine HCK.out.mono ?_; rintro e w4 ⟨v4, An, cn, As, cs, rfl, hO4, _, _, hb4⟩; have HO4 := Lib.hid hO4; obtain ⟨Av, cv, hv4, hcv, _⟩ := HO4.out.reads; subst hv4; have HB4 := Lib.hid hb4; clear hO4 hb4 hcv)
        have hs4 := HB4.out.size
        have hsr := HB.out.size
        rw [hsz] at hsr
        obtain ⟨ti, hti⟩ : ∃ ti, (fk F j).test = ti := ⟨_, rfl⟩
        obtain ⟨ni, hni⟩ : ∃ ni, (fk F j).next.length = ni := ⟨_, rfl⟩
        obtain ⟨si, hsi⟩ : ∃ si, (fk F j).set.length = si := ⟨_, rfl⟩
        rw [hti, hni, hsi]
        have HB5 : Hid (Below (w.heap.size + 1) (w.alloc (.cells #[.slice (some ⟨xb, xo, none⟩) c.weights.length c1, .slice A2 c.tests.length c2] 36)) (w4.alloc (.cells #[.int .i64 ti, .slice An ni cn, .slice As si cs] 110))) := (HB.out.trans (HB4.out.mono (by omega))).alloc (by omega) _
        have HO5 : Hid (OutI (w4.alloc (.cells #[.int .i64 ti, .slice An ni cn, .slice As si cs] 110)) wr.heap.size (.slice Av L.length cv) L) := World.ownsRow.alloc HO4.out _
        clear hti hni hsi HCK HO4 HB4
        have hs5 : w.heap.size + 1 ≤ (w4.alloc (.cells #[.int .i64 ti, .slice An ni cn, .slice As si cs] 110)).heap.size := by simp; omega
        generalize (w4.alloc (.cells #[.int .i64 ti, .slice An ni cn, .slice As si cs] 110)) = w5 at *
        go_loopw [11, 7] (fun vi vs wx => ∃ (q : Nat) (m : Int), q ≤ L.length ∧ vi = .int .i64 q ∧ vs = .int .i64 m ∧ Hid (m = p + payI c x (L.take q)) ∧ Hid (Below w5.heap.size w5 wx)) (fun vi _ _ => L.length - (intOf vi).toNat)
        case atStart => exact ⟨0, p, Nat.zero_le _, rfl, rfl, (Int.add_zero p).symm, Below.refl _ _⟩
        case round =>
          clear p0 p1 x0
          obtain ⟨q, m, hq, rfl, rfl, HM, HBX⟩ := hrel
          rename World => wx
          have HBY : Hid (Below (w.heap.size + 1) (w.alloc (.cells #[.slice (some ⟨xb, xo, none⟩) c.weights.length c1, .slice A2 c.tests.length c2] 36)) wx) := HB5.out.trans (HBX.out.mono hs5)
          by_cases hql : q < L.length
          rotate_left
          · obtain rfl : q = L.length := by omega
            go_wp2_with fail
            go_roundw
            case rel => exact ⟨k + 1, _, by omega, by go_num, rfl, by show _ = _; rw [HST.out, HM.out, List.take_length], HBY.out⟩
            case measure => simp [intOf]; omega
          · obtain ⟨p0, p1⟩ := HN.out wx HBY.out
            obtain ⟨lb, hlA, _, hlb, l0⟩ := HO5.out.at_ rfl hql
            have l0 := (bcell HBX.out _ _ hlb).trans l0
            obtain ⟨tt, htt, htl⟩ := HTT.out (L.getD q 0) (by rw [List.getD_eq_getElem?_getD, List.getElem?_eq_getElem hql]; exact List.getElem_mem hql)
            have hpay := payI_succ (c := c) (n := x) hql
            rw [htt] at l0 hpay
            obtain ⟨t, tb, tf, Ap, cp, htp, hA2, htb, m0, m1, _, _⟩ := (HWK.out wx HBY.out).1.ts.at_ htl
            obtain ⟨xb', xo', hA1, hxb', x0⟩ := (HWK.out wx HBY.out).1.ws.at_ hlt
            rw [HWX.out] at x0
            rw [testAt_of htp] at hpay
            have hy := (HOK.out.p tt t htp).1
            obtain ⟨y, hye⟩ : ∃ y, t.cost = y := ⟨_, rfl⟩
            rw [hye] at hpay m0 hy
            obtain ⟨z, hz⟩ : ∃ z, x * y = z := ⟨_, rfl⟩
            have hzb := mul_small hx hy
            have hmb := HBK2.out q
            have HMM := HM.out
            rw [hz] at hzb hpay
            have e1 : IntKind.i64.wrap (x * y) = z := by rw [hz]; exact IntWalk.i64_in _ (by omega)
            have e2 : IntKind.i64.wrap (m + z) = m + z := IntWalk.i64_in _ (by omega)
            have HNX : Hid (m + z = p + payI c x (L.take (q + 1))) := by show _ = _; rw [hpay, HMM, Int.add_assoc]
            rw [hlA]
            rw [hA2] at p1
            injection hA1 with hA1
            injection hA1 with e5 e6
            subst e5
            subst e6
            clear hpay hz hye HMM htp hA2 hlA htt hmb
            go_wp2_with fail
            go_quiet (fail)
            go_wp2_with fail
            go_roundw
            case rel => exact ⟨q + 1, _, by omega, by go_num, rfl, HNX.out, below_drewN HBX.out _⟩
            case measure => simp [intOf]; omega
end Go.Proofs.YtonpemikodajdaaDoor
