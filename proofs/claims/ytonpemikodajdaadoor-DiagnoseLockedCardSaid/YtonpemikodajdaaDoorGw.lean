/- Walks: the tree that grows from a set. -/
import Derived.Test.YtonpemikodajdaaDoorSt
import Derived.Test.YtonpemikodajdaaDoorGw1
import Derived.Deep.RegionLaw
import Derived.Deep.DeepCutAuto
namespace Go.Proofs.YtonpemikodajdaaDoor
open Go.RowKit

theorem GS.box {w w' : World} {B0 gp mb base : Nat} {A1 : Option Addr} {c1 : Nat} {A2 : Option Addr} {c2 : Nat} {c : MCase} {X : Nat → Prop} {v : Value} {F : List MFork} (h : GS w B0 gp mb base A1 c1 A2 c2 c X v F) (hg : w.grownBy w' v.ownBlock) : w'.cell? ⟨gp, 3, none⟩ = some v ∧ w'.frozen? ⟨gp, 3, none⟩ = false := by
  have hB : Below base w w' := (Below.refl _ _).grown hg h.bs (fun k hk => (h.out.lt k hk).1)
  have ho := h.own.below hB h.bg
  exact ⟨ho.cell (j := 3) (by omega), ho.frozen 3⟩
theorem new_fork {w1 w2 : World} {B0 gp mb base : Nat} {A1 : Option Addr} {c1 : Nat} {A2 : Option Addr} {c2 : Nat} {c : MCase} {X : Nat → Prop} {v : Value} {F : List MFork} (h : GS w1 B0 gp mb base A1 c1 A2 c2 c X v F) (_ : Below w1.heap.size w1 w2) {bt : Int} {l : List Int} {Lb : Option Addr} {lc : Nat} (hL : IntsU w2 (fun b => w1.heap.size ≤ b) Lb l) (hlc : l.length ≤ lc) (o : Obj) :
    ForkU (w2.alloc o) (fun b => ((b ≠ gp ∧ b ≠ mb) ∧ ¬ X b) ∧ some b ≠ v.ownBlock) ((none, 0), (Lb, lc)) ⟨bt, [], l⟩ := by
  have h1 := h.bg
  have h2 := h.bm
  have h3 := h.bs
  have h4 := h.out.lt
  refine ⟨fun h => by simp at h, Nat.le_refl _, hL.keep (by simp) (fun b hlt _ => Below.heap_alloc w2 o b hlt) (fun b _ hb => ⟨⟨⟨by omega, by omega⟩, fun hx => by have := h.xs b hx; omega⟩, fun e => ?_⟩), hlc⟩
  have := (h4 b e.symm).2
  omega
theorem own_notX {fo : Option Nat} {g H N : Nat} {X : Nat → Prop} (hv : ∀ k, fo = some k → ¬ X k) (hxs : ∀ b, X b → b < N) (hH : N ≤ H) (hat : fo = some g ∨ g = H) : ∀ k, some g = some k → ¬ X k := fun k hk hx => by
  injection hk with hk
  subst hk
  rcases hat with hat | hat
  · exact hv g hat hx
  · have := hxs g hx; omega
theorem Gr.setgp {w w' : World} {gp mb : Nat} {fo : Option Nat} (h : Gr w w' gp mb fo) (j : Nat) (u : Value) : Gr w (w'.setCell ⟨gp, j, none⟩ u) gp mb fo :=
  ⟨h.os, h.tape, h.output, by simpa using h.size, fun k hk h1 h2 h3 => (Below.heap_setCell w' ⟨gp, j, none⟩ u k h1).trans (h.block k hk h1 h2 h3)⟩
def GrowPost (w : World) (B0 gp mb base : Nat) (A1 : Option Addr) (c1 : Nat) (A2 : Option Addr) (c2 : Nat) (c : MCase) (X : Nat → Prop) (v : Value) (F : List MFork) (s : Nat) (e : Ending) (w' : World) : Prop :=
  e = .returned (.int .i64 F.length) ∧ ∃ v', GS w' B0 gp mb base A1 c1 A2 c2 c X v' (F ++ growS c s F.length) ∧ Gr w w' gp mb v.ownBlock ∧ OwnNew w v.ownBlock v'.ownBlock
set_option maxRecDepth 100000 in
set_option maxHeartbeats 4000000 in
theorem grow_step (B0 gp mb base : Nat) (A1 : Option Addr) (c1 : Nat) (A2 : Option Addr) (c2 : Nat) (c : MCase) (hc : caseB c = true) (s : Nat) (hs : s < 2 ^ c.weights.length)
    (ih : ∀ t, t < s → ∀ (X : Nat → Prop) (w : World) (v : Value) (F : List MFork), GS w B0 gp mb base A1 c1 A2 c2 c X v F → F.length + (growS c t F.length).length ≤ 1000000000 → Calls Tryd.prog 57 #[.pointer (some ⟨gp, 0, none⟩), .int .u64 t] w (GrowPost w B0 gp mb base A1 c1 A2 c2 c X v F t))
    (X : Nat → Prop) (w : World) (v : Value) (F : List MFork) (h : GS w B0 gp mb base A1 c1 A2 c2 c X v F) (hlen : F.length + (growS c s F.length).length ≤ 1000000000) : Calls Tryd.prog 57 #[.pointer (some ⟨gp, 0, none⟩), .int .u64 s] w (GrowPost w B0 gp mb base A1 c1 A2 c2 c X v F s) := by
  have hok := caseOk hc
  have hs12 := two12 hs hok.n2
  obtain ⟨Fa, fcap, hv, hfc⟩ := h.out.lenV
  have g3 := h.g3
  have hgl := h.own.lt
  have HC := Lib.hid hc
  have HSS := Lib.hid hs
  have HOK := Lib.hid hok
  have HIH := Lib.hid ih
  have HLEN := Lib.hid hlen
  have HGS := Lib.hid h
  have hcap := bestS_cap hok hs
  have HBS : Hid (∀ w1, GS w1 B0 gp mb base A1 c1 A2 c2 c X v F → Calls Tryd.prog 59 #[.pointer (some ⟨gp, 0, none⟩), .int .u64 s] w1 (BestPost w1 mb c s)) := fun w1 h1 => best_any B0 gp mb A1 c1 A2 c2 c hc h.hm h.ne s hs w1 h1.ge h1.g2 h1.kn
  rw [hv] at g3
  have HV := Lib.hid hv
  have hFl : F.length ≤ 1000000000 := by omega
  clear hok hs hc ih hlen h hv
  unfold BestPost at HBS
  obtain ⟨bt, hbt⟩ : ∃ x, (bestS c s).1 = x := ⟨_, rfl⟩
  have HBT := Lib.hid hbt
  rw [hbt] at HBS hcap
  generalize (bestS c s).2 = bc at *
  have j0 := fd0 (.int .i64 bt) (.int .i64 bc)
  clear hbt
  go_enter Tryd.func57, Tryd.ntmps57
  go_upto_region 3 with (go_at_call 59; refine (HBS.out _ HGS.out).mono ?_; rintro e w1 ⟨rfl, hk1, hg1⟩)
  have hG1 := HGS.out.grown hg1 hk1
  have hR1 : Gr w w1 gp mb v.ownBlock := Gr.of_map hg1
  have g31 := hG1.g3
  rw [HV.out] at g31
  have hgl1 := hG1.own.lt
  have hGd := hG1.below (Below.refl w1.heap.size w1).drew (Nat.le_refl _)
  have hs1 := hG1.bs
  have hbm := hG1.bm
  have hbg := hG1.bg
  have HFL : Hid (∀ k, v.ownBlock = some k → base ≤ k) := fun k hk => (hGd.out.lt k hk).1
  have hG1X := hG1.vX
  have hX1 := hG1.xs
  clear hk1 hg1 j0
  have HG1 := Lib.hid hG1
  clear hG1
  go_cut [21] (fun _ wx => ∃ g cap, GS wx B0 gp mb base A1 c1 A2 c2 c X (.slice (some ⟨g, 0, none⟩) (F.length + 1) cap) (F ++ [⟨bt, [], bitsI s⟩]) ∧ Gr w1 wx gp mb v.ownBlock ∧ OwnNew w1 v.ownBlock (some g))
  case first =>
    go_region_law ((first | (refine step_list _ (by rfl) _ (by rfl) s (by rfl) hs12 hGd.tab ?_; intro Lb lc w2 hlc hL hb2; have g32 := (bcell hb2 gp 3 hgl1).trans g31; have hs2 := hb2.size; simp at hs2; have g33 := fun o : Obj => (acell w2 o gp 3 (by omega)).trans g32) | (refine step_app_fork _ (by rfl) _ _ (by rfl) base (fun b => (b ≠ gp ∧ b ≠ mb) ∧ ¬ X b) v F (by rw [HV.out]; rfl) ((hGd.below hb2 (Nat.le_refl _)).below ((Below.refl _ _).alloc (Nat.le_refl _) _) (Nat.le_refl _)).out w2.heap.size (by rfl) ⟨bt, [], bitsI s⟩ ((none, 0), (Lb, lc)) (new_fork hGd hb2 hL hlc _) (newcell _ _ _ _) (newcell _ _ _ _) (newcell _ _ _ _) hFl (by simp; omega) _ (by rfl) ?_; intro g cap w6 hO6 hg6 hat6 hgl6; have hbx := ((hGd.below hb2 (Nat.le_refl _)).below ((Below.refl _ _).alloc (Nat.le_refl _) _) (Nat.le_refl _)).box hg6; have hP := ((hGd.below hb2 (Nat.le_refl _)).below ((Below.refl _ _).alloc (Nat.le_refl _) _) (Nat.le_refl _)).pushed hg6 hO6 (own_notX hG1X hX1 (by simp; omega) hat6); have hbx0 := hbx.1; rw [HV.out] at hbx0; have hbx1 := hbx.2)))
    all_goals
      go_wp2_with fail
      go_meet
      refine ⟨g, cap, hP, ?_, ?_⟩
      · exact (((Gr.of_below (((Below.refl w1.heap.size w1).drew.trans (hb2.mono (by simp))).alloc (by omega) _) (Nat.le_refl _)).trans (Gr.of_row hg6) (OwnNew.refl _ _)).setgp 3 _)
      · rcases hat6 with hat6 | hat6
        · exact .inl hat6.symm
        · exact .inr ⟨g, rfl, by simp at hat6; omega⟩
  case rest =>
    obtain ⟨g, cap, hP, hR3, hN3⟩ := hcut
    have hR4 : Gr w wc gp mb v.ownBlock := hR1.trans hR3 (OwnNew.refl _ _)
    have hN4 : OwnNew w v.ownBlock (some g) := (OwnNew.refl w _).trans hN3 hR1.size
    by_cases hb0 : bt < 0
    · go_wp2_with fail
      go_ret
      exact ⟨rfl, .slice (some ⟨g, 0, none⟩) (F.length + 1) cap, by rw [growS_leaf (by rw [HBT.out]; exact hb0), HBT.out]; exact hP, hR4, hN4⟩
    · have HGS2 : Hid (growS c s F.length = ⟨bt, (kidsF (growS c) (testAt c bt).outs s F.length 4).2, bitsI s⟩ :: (kidsF (growS c) (testAt c bt).outs s F.length 4).1) := by
        have := growS_fork (c := c) (n := F.length) hs12 (by rw [HBT.out]; exact hb0)
        rw [HBT.out] at this
        exact this
      have htw := bestS_parts hs12 (c := c) (by rw [HBT.out]; omega)
      rw [HBT.out] at htw
      have hbtn : bt.toNat < c.tests.length := by omega
      obtain ⟨pt, b, off, Ap, cp, ht, rfl, hblt, t0, t1, hcp, htp⟩ := hP.ca.ts.at_ (k := bt.toNat) hbtn
      have hgd : testAt c bt = pt := by unfold testAt; rw [List.getD_eq_getElem?_getD, ht]; rfl
      rw [hgd] at HGS2 htw
      have hprobe := HOK.out.p _ pt ht
      have g1c := hP.ge.g1
      have hbs := hP.bs
      have hB0 := hP.hg
      have hbgc := hP.bg
      have hbmc := hP.bm
      obtain ⟨x0, h0⟩ : ∃ x, partS pt.outs s 0 = x := ⟨_, rfl⟩
      obtain ⟨x1, h1⟩ : ∃ x, partS pt.outs s 1 = x := ⟨_, rfl⟩
      obtain ⟨x2, h2⟩ : ∃ x, partS pt.outs s 2 = x := ⟨_, rfl⟩
      obtain ⟨x3, h3⟩ : ∃ x, partS pt.outs s 3 = x := ⟨_, rfl⟩
      obtain ⟨R, hR⟩ : ∃ x, partsTo pt.outs s 4 = x := ⟨_, rfl⟩
      have HSP : Hid (Calls Tryd.prog 94 #[.agg #[.int .i64 pt.cost, .slice Ap pt.outs.length cp], .int .u64 s] wc fun e w' => e = .returned (.tuple #[.agg #[.int .u64 x0, .int .u64 x1, .int .u64 x2, .int .u64 x3], .int .i64 R]) ∧ Below wc.heap.size wc w') :=
        split_any pt Ap cp s c.weights.length _ hP.tab (htp.more (by omega)) hprobe.2.1 HOK.out.n2 hprobe.2.2 HSS.out h0 h1 h2 h3 hR
      have HX0 := Lib.hid h0
      have HX1 := Lib.hid h1
      have HX2 := Lib.hid h2
      have HX3 := Lib.hid h3
      have HTW := Lib.hid (fun o => partsTo_two (outs := pt.outs) (s := s) (o := o) (k := 4) htw)
      have HK4 : Hid (F.length + 1 + (kidsF (growS c) pt.outs s F.length 4).1.length ≤ 1000000000) := by
        show _ ≤ _
        have := HLEN.out
        rw [HGS2.out, List.length_cons] at this
        omega
      clear h0 h1 h2 h3 hR htw hgd ht htp hprobe HBS HBT
      go_wp2_with (go_at_call 94; refine HSP.out.mono ?_; rintro e w2 ⟨rfl, hb2⟩)
      have hb3 : Below wc.heap.size wc (w2.alloc (.cells #[.int .u64 x0, .int .u64 x1, .int .u64 x2, .int .u64 x3] 143)) := hb2.alloc hb2.size _
      have hG5 := hP.below hb3 (Nat.le_refl _)
      have hR5 : Gr w (w2.alloc (.cells #[.int .u64 x0, .int .u64 x1, .int .u64 x2, .int .u64 x3] 143)) gp mb v.ownBlock := hR4.trans (Gr.of_below hb3 (Nat.le_refl _)) (OwnNew.refl _ _)
      generalize w2.alloc (.cells #[.int .u64 x0, .int .u64 x1, .int .u64 x2, .int .u64 x3] 143) = W5 at *
      have hsw5 := hR5.size
      clear hb2 hb3 hP hR3 hN3 hR4 HSP t0 t1 g1c
      have hbs5 := hG5.bs
      go_loopw [9, 51] (fun vn vi wx => ∃ o : Nat, o ≤ 4 ∧ vi = .int .i64 o ∧ ∃ (v' : Value) (K : List MFork) (L : List Int), Hid (kidsF (growS c) pt.outs s F.length o = (K, L)) ∧ GS wx B0 gp mb base A1 c1 (some ⟨b, off, none⟩) c2 c (fun k => X k ∨ vn.ownBlock = some k) v' (F ++ ⟨bt, [], bitsI s⟩ :: K) ∧ OutI wx W5.heap.size vn L ∧ Gr w wx gp mb v.ownBlock ∧ OwnNew w v.ownBlock v'.ownBlock ∧ W5.heap.size ≤ wx.heap.size) (fun _ vi _ => 4 - (intOf vi).toNat)
      case atStart => exact ⟨0, Nat.zero_le _, rfl, _, [], [], rfl, hG5.lessX (fun b hb => hb.resolve_right (fun e => by cases e)), OutI.nil _ _, hR5, hN4, Nat.le_refl _⟩
      case round =>
        clear hG5 hR5 hN4
        obtain ⟨o, ho4, rfl, v', K, L, HKL, hGx, hOn, hRx, hNx, hWx⟩ := hrel
        rename World => wx
        have hLl : L.length ≤ 4 := by
          have := kidsF_len (growS c) pt.outs s F.length o
          rw [HKL.out] at this
          have this : L.length = o := this
          omega
        have hFK : (F ++ (⟨bt, [], bitsI s⟩ : MFork) :: K).length = F.length + 1 + K.length := by rw [List.length_append, List.length_cons]; omega
        have hnb : ∀ k, u9.ownBlock = some k → base ≤ k ∧ w.heap.size ≤ k := fun k hk => by
          have := (own_block_lt hOn k hk).1
          omega
        have HNB := Lib.hid hnb
        clear hnb
        obtain ⟨N, hN⟩ : ∃ N, F.length + 1 + K.length = N := ⟨_, rfl⟩
        rw [hN] at hFK
        have i0 := ix0 (.int .u64 x0) (.int .u64 x1) (.int .u64 x2) (.int .u64 x3)
        have i1 := ix1 (.int .u64 x0) (.int .u64 x1) (.int .u64 x2) (.int .u64 x3)
        have i2 := ix2 (.int .u64 x0) (.int .u64 x1) (.int .u64 x2) (.int .u64 x3)
        have i3 := ix3 (.int .u64 x0) (.int .u64 x1) (.int .u64 x2) (.int .u64 x3)
        rcases (show o = 0 ∨ o = 1 ∨ o = 2 ∨ o = 3 ∨ o = 4 by omega) with rfl | rfl | rfl | rfl | rfl
        · by_cases h0 : 0 < x0
          · obtain ⟨p', _, hp', h2'⟩ := HTW.out 0
            have hxs : x0 < s := by rw [← HX0.out]; exact partS_ne hs12 (fun e => hp' e.symm) h2'
            have HKY : Hid (kidsF (growS c) pt.outs s F.length (0 + 1) = (K ++ growS c x0 N, L ++ [(N : Int)])) := by
              show _ = _
              rw [kidsF_yes (by rw [HX0.out]; exact h0), HKL.out, HX0.out, hN]
            have hml : F.length + 1 + (kidsF (growS c) pt.outs s F.length (0 + 1)).1.length ≤ 1000000000 := Nat.le_trans (Nat.add_le_add_left (kidsF_mono (growS c) pt.outs s F.length (0 + 1) 3) _) HK4.out
            rw [HKY.out, List.length_append] at hml
            have hpre : (F ++ (⟨bt, [], bitsI s⟩ : MFork) :: K).length + (growS c x0 (F ++ (⟨bt, [], bitsI s⟩ : MFork) :: K).length).length ≤ 1000000000 := by rw [hFK]; omega
            have HIX := Lib.hid (HIH.out x0 hxs _ wx v' _ hGx hpre)
            unfold GrowPost at HIX
            rw [hFK] at HIX
            clear hml hpre
            go_wp2_with (first | (go_at_call 57; refine HIX.out.mono ?_; rintro e w7 ⟨rfl, v7, hG7, hR7, hN7⟩; have hO7 := OutI.gr hOn hR7 (by omega) (by omega) (fun k hk e => hGx.vX k e.symm (Or.inr hk)); have hs7 := hR7.size) | (at_builtin; refine app_int_at _ rfl _ _ rfl W5.heap.size _ L rfl (World.ownsRow.alloc hO7 _) _ _ rfl (newcell _ _ _ _) (by omega) (by simp; omega) ?_; intro g8 cap8 w8 hO8 hg8 hat8 hlt8))
            have hak := after_kid hG7 HNB.out (hRx.trans hR7 hNx) hg8 hat8 hlt8
            have hs8 := hg8.size
            simp at hs8
            go_roundw
            case rel => exact ⟨0 + 1, by omega, rfl, v7, _, _, HKY.out, by rw [List.append_assoc, List.cons_append] at hak; exact hak.1, hO8, hak.2, hNx.trans hN7 hRx.size, by omega⟩
            case measure => simp [intOf]
          · have hd0 : decide (0 < x0) = false := decide_eq_false h0
            have HKN : Hid (kidsF (growS c) pt.outs s F.length (0 + 1) = (K, L ++ [-1])) := by
              show _ = _
              rw [kidsF_no (by rw [HX0.out]; exact h0), HKL.out]
            go_wp2_with (at_builtin; refine app_int_at _ rfl _ _ rfl W5.heap.size _ L rfl (World.ownsRow.alloc hOn _) _ _ rfl (newcell _ _ _ _) (by omega) (by simp; omega) ?_; intro g8 cap8 w8 hO8 hg8 hat8 hlt8)
            have hak := after_kid hGx HNB.out hRx hg8 hat8 hlt8
            have hs8 := hg8.size
            simp at hs8
            go_roundw
            case rel => exact ⟨0 + 1, by omega, rfl, v', _, _, HKN.out, hak.1, hO8, hak.2, hNx, by omega⟩
            case measure => simp [intOf]
        · by_cases h0 : 0 < x1
          · obtain ⟨p', _, hp', h2'⟩ := HTW.out 1
            have hxs : x1 < s := by rw [← HX1.out]; exact partS_ne hs12 (fun e => hp' e.symm) h2'
            have HKY : Hid (kidsF (growS c) pt.outs s F.length (1 + 1) = (K ++ growS c x1 N, L ++ [(N : Int)])) := by
              show _ = _
              rw [kidsF_yes (by rw [HX1.out]; exact h0), HKL.out, HX1.out, hN]
            have hml : F.length + 1 + (kidsF (growS c) pt.outs s F.length (1 + 1)).1.length ≤ 1000000000 := Nat.le_trans (Nat.add_le_add_left (kidsF_mono (growS c) pt.outs s F.length (1 + 1) 2) _) HK4.out
            rw [HKY.out, List.length_append] at hml
            have hpre : (F ++ (⟨bt, [], bitsI s⟩ : MFork) :: K).length + (growS c x1 (F ++ (⟨bt, [], bitsI s⟩ : MFork) :: K).length).length ≤ 1000000000 := by rw [hFK]; omega
            have HIX := Lib.hid (HIH.out x1 hxs _ wx v' _ hGx hpre)
            unfold GrowPost at HIX
            rw [hFK] at HIX
            clear hml hpre
            go_wp2_with (first | (go_at_call 57; refine HIX.out.mono ?_; rintro e w7 ⟨rfl, v7, hG7, hR7, hN7⟩; have hO7 := OutI.gr hOn hR7 (by omega) (by omega) (fun k hk e => hGx.vX k e.symm (Or.inr hk)); have hs7 := hR7.size) | (at_builtin; refine app_int_at _ rfl _ _ rfl W5.heap.size _ L rfl (World.ownsRow.alloc hO7 _) _ _ rfl (newcell _ _ _ _) (by omega) (by simp; omega) ?_; intro g8 cap8 w8 hO8 hg8 hat8 hlt8))
            have hak := after_kid hG7 HNB.out (hRx.trans hR7 hNx) hg8 hat8 hlt8
            have hs8 := hg8.size
            simp at hs8
            go_roundw
            case rel => exact ⟨1 + 1, by omega, rfl, v7, _, _, HKY.out, by rw [List.append_assoc, List.cons_append] at hak; exact hak.1, hO8, hak.2, hNx.trans hN7 hRx.size, by omega⟩
            case measure => simp [intOf]
          · have hd0 : decide (0 < x1) = false := decide_eq_false h0
            have HKN : Hid (kidsF (growS c) pt.outs s F.length (1 + 1) = (K, L ++ [-1])) := by
              show _ = _
              rw [kidsF_no (by rw [HX1.out]; exact h0), HKL.out]
            go_wp2_with (at_builtin; refine app_int_at _ rfl _ _ rfl W5.heap.size _ L rfl (World.ownsRow.alloc hOn _) _ _ rfl (newcell _ _ _ _) (by omega) (by simp; omega) ?_; intro g8 cap8 w8 hO8 hg8 hat8 hlt8)
            have hak := after_kid hGx HNB.out hRx hg8 hat8 hlt8
            have hs8 := hg8.size
            simp at hs8
            go_roundw
            case rel => exact ⟨1 + 1, by omega, rfl, v', _, _, HKN.out, hak.1, hO8, hak.2, hNx, by omega⟩
            case measure => simp [intOf]
        · by_cases h0 : 0 < x2
          · obtain ⟨p', _, hp', h2'⟩ := HTW.out 2
            have hxs : x2 < s := by rw [← HX2.out]; exact partS_ne hs12 (fun e => hp' e.symm) h2'
            have HKY : Hid (kidsF (growS c) pt.outs s F.length (2 + 1) = (K ++ growS c x2 N, L ++ [(N : Int)])) := by
              show _ = _
              rw [kidsF_yes (by rw [HX2.out]; exact h0), HKL.out, HX2.out, hN]
            have hml : F.length + 1 + (kidsF (growS c) pt.outs s F.length (2 + 1)).1.length ≤ 1000000000 := Nat.le_trans (Nat.add_le_add_left (kidsF_mono (growS c) pt.outs s F.length (2 + 1) 1) _) HK4.out
            rw [HKY.out, List.length_append] at hml
            have hpre : (F ++ (⟨bt, [], bitsI s⟩ : MFork) :: K).length + (growS c x2 (F ++ (⟨bt, [], bitsI s⟩ : MFork) :: K).length).length ≤ 1000000000 := by rw [hFK]; omega
            have HIX := Lib.hid (HIH.out x2 hxs _ wx v' _ hGx hpre)
            unfold GrowPost at HIX
            rw [hFK] at HIX
            clear hml hpre
            go_wp2_with (first | (go_at_call 57; refine HIX.out.mono ?_; rintro e w7 ⟨rfl, v7, hG7, hR7, hN7⟩; have hO7 := OutI.gr hOn hR7 (by omega) (by omega) (fun k hk e => hGx.vX k e.symm (Or.inr hk)); have hs7 := hR7.size) | (at_builtin; refine app_int_at _ rfl _ _ rfl W5.heap.size _ L rfl (World.ownsRow.alloc hO7 _) _ _ rfl (newcell _ _ _ _) (by omega) (by simp; omega) ?_; intro g8 cap8 w8 hO8 hg8 hat8 hlt8))
            have hak := after_kid hG7 HNB.out (hRx.trans hR7 hNx) hg8 hat8 hlt8
            have hs8 := hg8.size
            simp at hs8
            go_roundw
            case rel => exact ⟨2 + 1, by omega, rfl, v7, _, _, HKY.out, by rw [List.append_assoc, List.cons_append] at hak; exact hak.1, hO8, hak.2, hNx.trans hN7 hRx.size, by omega⟩
            case measure => simp [intOf]
          · have hd0 : decide (0 < x2) = false := decide_eq_false h0
            have HKN : Hid (kidsF (growS c) pt.outs s F.length (2 + 1) = (K, L ++ [-1])) := by
              show _ = _
              rw [kidsF_no (by rw [HX2.out]; exact h0), HKL.out]
            go_wp2_with (at_builtin; refine app_int_at _ rfl _ _ rfl W5.heap.size _ L rfl (World.ownsRow.alloc hOn _) _ _ rfl (newcell _ _ _ _) (by omega) (by simp; omega) ?_; intro g8 cap8 w8 hO8 hg8 hat8 hlt8)
            have hak := after_kid hGx HNB.out hRx hg8 hat8 hlt8
            have hs8 := hg8.size
            simp at hs8
            go_roundw
            case rel => exact ⟨2 + 1, by omega, rfl, v', _, _, HKN.out, hak.1, hO8, hak.2, hNx, by omega⟩
            case measure => simp [intOf]
        · by_cases h0 : 0 < x3
          · obtain ⟨p', _, hp', h2'⟩ := HTW.out 3
            have hxs : x3 < s := by rw [← HX3.out]; exact partS_ne hs12 (fun e => hp' e.symm) h2'
            have HKY : Hid (kidsF (growS c) pt.outs s F.length (3 + 1) = (K ++ growS c x3 N, L ++ [(N : Int)])) := by
              show _ = _
              rw [kidsF_yes (by rw [HX3.out]; exact h0), HKL.out, HX3.out, hN]
            have hml : F.length + 1 + (kidsF (growS c) pt.outs s F.length (3 + 1)).1.length ≤ 1000000000 := Nat.le_trans (Nat.add_le_add_left (kidsF_mono (growS c) pt.outs s F.length (3 + 1) 0) _) HK4.out
            rw [HKY.out, List.length_append] at hml
            have hpre : (F ++ (⟨bt, [], bitsI s⟩ : MFork) :: K).length + (growS c x3 (F ++ (⟨bt, [], bitsI s⟩ : MFork) :: K).length).length ≤ 1000000000 := by rw [hFK]; omega
            have HIX := Lib.hid (HIH.out x3 hxs _ wx v' _ hGx hpre)
            unfold GrowPost at HIX
            rw [hFK] at HIX
            clear hml hpre
            go_wp2_with (first | (go_at_call 57; refine HIX.out.mono ?_; rintro e w7 ⟨rfl, v7, hG7, hR7, hN7⟩; have hO7 := OutI.gr hOn hR7 (by omega) (by omega) (fun k hk e => hGx.vX k e.symm (Or.inr hk)); have hs7 := hR7.size) | (at_builtin; refine app_int_at _ rfl _ _ rfl W5.heap.size _ L rfl (World.ownsRow.alloc hO7 _) _ _ rfl (newcell _ _ _ _) (by omega) (by simp; omega) ?_; intro g8 cap8 w8 hO8 hg8 hat8 hlt8))
            have hak := after_kid hG7 HNB.out (hRx.trans hR7 hNx) hg8 hat8 hlt8
            have hs8 := hg8.size
            simp at hs8
            go_roundw
            case rel => exact ⟨3 + 1, by omega, rfl, v7, _, _, HKY.out, by rw [List.append_assoc, List.cons_append] at hak; exact hak.1, hO8, hak.2, hNx.trans hN7 hRx.size, by omega⟩
            case measure => simp [intOf]
          · have hd0 : decide (0 < x3) = false := decide_eq_false h0
            have HKN : Hid (kidsF (growS c) pt.outs s F.length (3 + 1) = (K, L ++ [-1])) := by
              show _ = _
              rw [kidsF_no (by rw [HX3.out]; exact h0), HKL.out]
            go_wp2_with (at_builtin; refine app_int_at _ rfl _ _ rfl W5.heap.size _ L rfl (World.ownsRow.alloc hOn _) _ _ rfl (newcell _ _ _ _) (by omega) (by simp; omega) ?_; intro g8 cap8 w8 hO8 hg8 hat8 hlt8)
            have hak := after_kid hGx HNB.out hRx hg8 hat8 hlt8
            have hs8 := hg8.size
            simp at hs8
            go_roundw
            case rel => exact ⟨3 + 1, by omega, rfl, v', _, _, HKN.out, hak.1, hO8, hak.2, hNx, by omega⟩
            case measure => simp [intOf]
        · clear i0 i1 i2 i3
          have hLe : L.length = 4 := by
            have := kidsF_len (growS c) pt.outs s F.length 4
            rw [HKL.out] at this
            exact this
          have hXs := HGS.out.xs
          obtain ⟨g9, cap9, hv9, hb9, hl9⟩ : ∃ g cap, v' = .slice (some ⟨g, 0, none⟩) (F ++ (⟨bt, [], bitsI s⟩ : MFork) :: K).length cap ∧ base ≤ g ∧ g < wx.heap.size := by
            obtain ⟨pv, hrow, _⟩ := hGx.out
            exact hrow.form (by omega)
          subst hv9
          obtain ⟨A9, n9, hu9, hn9, _⟩ := hOn.lenV
          subst hu9
          have hnx := (hGx.lessX (X := X) (fun b hb => Or.inl hb)).nexted (i := F.length) (by rw [hFK]; omega) A9 n9 L (hOn.intsU rfl (fun k hA hk => ⟨⟨⟨by omega, by omega⟩, fun hx => by have := hXs k hx; omega⟩, fun e => hGx.vX g9 rfl (Or.inr (by rw [hA]; exact e))⟩)) hn9
          rw [set_mid, get_mid] at hnx
          obtain ⟨⟨uo, hc9⟩, hf9, hG9⟩ := hnx
          have hg3 := hGx.g3
          rw [hFK] at hg3
          have hlx := hGx.own.lt
          have hFN : F.length < N := by omega
          have hR9 := hRx.setnew (g := g9) (j := F.length * 3 + 1) (by
            rcases hNx with hNx | ⟨g', h1, h2⟩
            · exact .inl hNx.symm
            · have h1 : some g9 = some g' := h1
              injection h1 with h1
              exact .inr (by omega)) (.slice A9 L.length n9)
          clear hGx hRx
          rw [hLe] at hG9 hR9
          go_wp2_with fail
          go_ret
          exact ⟨rfl, _, by rw [HGS2.out, HKL.out]; exact hG9, hR9, hNx⟩
theorem grow_any (B0 gp mb base : Nat) (A1 : Option Addr) (c1 : Nat) (A2 : Option Addr) (c2 : Nat) (c : MCase) (hc : caseB c = true) : ∀ (s : Nat), s < 2 ^ c.weights.length → ∀ (X : Nat → Prop) (w : World) (v : Value) (F : List MFork), GS w B0 gp mb base A1 c1 A2 c2 c X v F → F.length + (growS c s F.length).length ≤ 1000000000 →
    Calls Tryd.prog 57 #[.pointer (some ⟨gp, 0, none⟩), .int .u64 s] w (GrowPost w B0 gp mb base A1 c1 A2 c2 c X v F s) := by
  intro s
  induction s using Nat.strongRecOn with
  | ind s ih => exact fun hs X w v F h hl => grow_step B0 gp mb base A1 c1 A2 c2 c hc s hs (fun t ht => ih t ht (by omega)) X w v F h hl
end Go.Proofs.YtonpemikodajdaaDoor
