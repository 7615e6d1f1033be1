/- Walk: grown, of the laws. -/
import Derived.Test.YtonpemikodajdaaDoorCg
import Derived.Deep.RegionLaw
import Derived.Deep.Cut
import Derived.Deep.DeepCutAuto
namespace Go.Proofs.YtonpemikodajdaaDoor
open Go.RowKit

theorem grown_of_below {w w' : World} {row : Option Nat} (h : Below w.heap.size w w') : w.grownBy w' row := grown_after (World.grownBy.refl _ _) h (Nat.le_refl _)
/-- what grown wants -/
structure GrownPre (w : World) (B0 base : Nat) (A1 A2 : Option Addr) (c : MCase) (Ao : Option Addr) (ord : List Int) (U : Nat → Nat → Prop) (pv : PV) (v : Value) (F : List MFork) (As : Option Addr) (s : Nat) : Prop where
  ca : CaseA w B0 A1 A2 c
  io : IntsA w B0 Ao ord
  b0 : B0 ≤ base
  bs : base ≤ w.heap.size
  out : OutV w base U pv v F
  hU : ∀ i, F.length ≤ i → ∀ b, w.heap.size ≤ b → U i b
  set : IntsU w (fun b => U F.length b ∧ some b ≠ v.ownBlock) As (bitsI s)
/-- what grown leaves -/
def GrownPost (w : World) (base : Nat) (c : MCase) (ch : Nat → Int) (U : Nat → Nat → Prop) (pv : PV) (v : Value) (F : List MFork) (s : Nat) (e : Ending) (w' : World) : Prop :=
  ∃ v' pv', e = .returned v' ∧ OutV w' base U pv' v' (F ++ growG ch c s F.length) ∧ (∀ i, i < F.length → pv' i = pv i) ∧ w.grownBy w' v.ownBlock ∧ ∀ g, v'.ownBlock = some g → v.ownBlock = some g ∨ w.heap.size ≤ g
theorem GrownPre.own_lt {w : World} {B0 base : Nat} {A1 A2 : Option Addr} {c : MCase} {Ao : Option Addr} {ord : List Int} {U : Nat → Nat → Prop} {pv : PV} {v : Value} {F : List MFork} {As : Option Addr} {s : Nat} (h : GrownPre w B0 base A1 A2 c Ao ord U pv v F As s) : ∀ k, v.ownBlock = some k → base ≤ k ∧ k < w.heap.size := h.out.lt
/-- the set stays readable, and where it lies -/
theorem GrownPre.setAt {w wx : World} {B0 base : Nat} {A1 A2 : Option Addr} {c : MCase} {Ao : Option Addr} {ord : List Int} {U : Nat → Nat → Prop} {pv : PV} {v : Value} {F : List MFork} {As : Option Addr} {s : Nat} (h : GrownPre w B0 base A1 A2 c Ao ord U pv v F As s) (hg : w.grownBy wx v.ownBlock) : IntsU wx (fun b => (U F.length b ∧ some b ≠ v.ownBlock) ∧ b < w.heap.size) As (bitsI s) := fun hl => by
  obtain ⟨b, off, hA, hb, hu, hc⟩ := h.set hl
  exact ⟨b, off, hA, Nat.lt_of_lt_of_le hb hg.size, ⟨hu, hb⟩, fun i hi => (World.cell?_of_block (a := ⟨b, off + i, none⟩) (hg.block b hb hu.2)).trans (hc i hi)⟩
theorem leaf_post {w wx w6 : World} {base : Nat} {c : MCase} {U : Nat → Nat → Prop} {pv : PV} {v : Value} {F : List MFork} {As : Option Addr} {s cs g cap : Nat} {ch : Nat → Int} (hch : ch s = -1) (hb : Below w.heap.size w wx)
    (hO : OutV w6 base U (fun i => if i = F.length then ((none, 0), (As, cs)) else pv i) (.slice (some ⟨g, 0, none⟩) (F.length + 1) cap) (F ++ [⟨-1, [], bitsI s⟩])) (hg : wx.grownBy w6 v.ownBlock) (hat : v.ownBlock = some g ∨ g = wx.heap.size) : GrownPost w base c ch U pv v F s (.returned (.slice (some ⟨g, 0, none⟩) (F.length + 1) cap)) w6 := by
  refine ⟨_, fun i => if i = F.length then ((none, 0), (As, cs)) else pv i, rfl, ?_, fun i hi => if_neg (Nat.ne_of_lt hi), (grown_of_below hb).trans hg, fun g' hg' => ?_⟩
  · rw [growG_leaf (by omega), hch]; exact hO
  · have hg' : some g = some g' := hg'
    injection hg' with hg'
    subst hg'
    rcases hat with e | e
    · exact .inl e
    · exact .inr (by have := hb.size; omega)
theorem part_row {outs : List Int} {s o : Nat} (hs : s < 4096) : nI (partN outs o (bitsOf s)) = bitsI (partS outs s o) := by rw [partN_bits hs]; rfl
/-- a row of rows of one's own: one row, and where it lies -/
theorem row_at {w0 w : World} {base : Nat} {pg : Nat} {outs : List Int} {s o : Nat} (h : OutRR w base (.slice (some ⟨pg, 0, none⟩) 4 4) (partsI outs s)) (ho : o < 4) (hb : w0.heap.size ≤ base) : ∃ Ap cp, w.cell? ⟨pg, o, none⟩ = some (.slice Ap (bitsI (partS outs s o)).length cp) ∧ (bitsI (partS outs s o)).length ≤ cp ∧ IntsU w (fun b => w0.heap.size ≤ b ∧ b < w.heap.size) Ap (bitsI (partS outs s o)) := by
  obtain ⟨g, cap, vi, hv, _, _, hc, _, hI, _, _⟩ := h.at_ (i := o) (by rw [partsI_len]; exact ho)
  injection hv with hA _ _
  injection hA with hA
  injection hA with hA
  subst hA
  rw [partsI_at ho] at hI
  have hlt := own_block_lt hI
  obtain ⟨A, cp, rfl, hl, _⟩ := hI.reads
  exact ⟨A, cp, hc, hl, hI.intsU rfl fun g hg hb2 => ⟨by omega, (hlt g (by rw [hg]; rfl)).2⟩⟩
theorem rep_set {L : List Int} {o : Nat} (hL : L.length = o) (ho : o < 4) (x : Int) : (L ++ List.replicate (4 - o) (-1)).set o x = (L ++ [x]) ++ List.replicate (4 - (o + 1)) (-1) := by
  rw [List.set_append_right _ _ (by omega), hL, Nat.sub_self, show 4 - o = (4 - (o + 1)) + 1 by omega, List.replicate_succ, List.set_cons_zero, List.append_assoc]
  rfl
theorem rep_same {L : List Int} {o : Nat} (ho : o < 4) : L ++ List.replicate (4 - o) (-1) = (L ++ [(-1 : Int)]) ++ List.replicate (4 - (o + 1)) (-1) := by
  rw [show 4 - o = (4 - (o + 1)) + 1 by omega, List.replicate_succ, List.append_assoc]
  rfl
theorem grown_far {w0 w1 w2 : World} {r r' : Option Nat} (h : w0.grownBy w1 r) (h' : w1.grownBy w2 r') (hr : ∀ k, r' = some k → r = some k ∨ w0.heap.size ≤ k) : w0.grownBy w2 r :=
  ⟨h'.os.trans h.os, h'.tape.trans h.tape, h'.output.trans h.output, Nat.le_trans h.size h'.size, fun k hk hne => (h'.block k (Nat.lt_of_lt_of_le hk h.size) fun e => by
    rcases hr k e.symm with e2 | e2
    · exact hne e2.symm
    · omega).trans (h.block k hk hne)⟩
theorem grown_set {w0 w1 : World} {r : Option Nat} {nb o : Nat} (h : w0.grownBy w1 r) (hn : w0.heap.size ≤ nb) (u : Value) : w0.grownBy (w1.setCell ⟨nb, o, none⟩ u) r :=
  grown_after h ((Below.refl w0.heap.size w1).setCell (p := ⟨nb, o, none⟩) hn u) (Nat.le_refl _)
theorem OutV.notOwn {w : World} {base : Nat} {U : Nat → Nat → Prop} {pv : PV} {v : Value} {F : List MFork} (h : OutV w base U pv v F) {n nb : Nat} (hn : n < F.length) (hq : (pv n).1.1 = some ⟨nb, 0, none⟩) (hl : 0 < (F.getD n dFork).next.length) : some nb ≠ v.ownBlock := by
  obtain ⟨b, off, hA, _, ⟨_, hown⟩, _⟩ := (h.2 n hn).n hl
  rw [hq] at hA
  injection hA with hA
  injection hA with e1 e2
  rw [e1]
  exact hown
set_option maxRecDepth 100000 in
set_option maxHeartbeats 16000000 in
theorem grown_step (B0 base : Nat) (A1 : Option Addr) (c1 : Nat) (A2 : Option Addr) (c2 : Nat) (c : MCase) (hc : caseB c = true) (Ao : Option Addr) (co : Nat) (ord : List Int) (hm : ord.length = 0 ∨ 0 < c.tests.length) (hol : ord.length ≤ 1000) (s : Nat) (hs : s < 2 ^ c.weights.length)
    (ih : ∀ t, t < s → ∀ (w : World) (As : Option Addr) (cs : Nat) (U : Nat → Nat → Prop) (pv : PV) (v : Value) (F : List MFork), GrownPre w B0 base A1 A2 c Ao ord U pv v F As t → (bitsI t).length ≤ cs → F.length + (growG (chT c ord) c t F.length).length ≤ 1000000 →
      Calls Tryd.prog 39 #[.agg #[.slice A1 c.weights.length c1, .slice A2 c.tests.length c2], .slice As (bitsI t).length cs, .slice Ao ord.length co, v] w (GrownPost w base c (chT c ord) U pv v F t))
    (w : World) (As : Option Addr) (cs : Nat) (U : Nat → Nat → Prop) (pv : PV) (v : Value) (F : List MFork) (hp : GrownPre w B0 base A1 A2 c Ao ord U pv v F As s) (hcs : (bitsI s).length ≤ cs) (hlen : F.length + (growG (chT c ord) c s F.length).length ≤ 1000000) :
    Calls Tryd.prog 39 #[.agg #[.slice A1 c.weights.length c1, .slice A2 c.tests.length c2], .slice As (bitsI s).length cs, .slice Ao ord.length co, v] w (GrownPost w base c (chT c ord) U pv v F s) := by
  have hok := caseOk hc
  have hs12 := pow12 hok.n2 hs
  have hm12 := hok.t
  have hn12 := hok.n2
  have hbs := hp.bs
  have hb00 := hp.b0
  have hb1 : Below w.heap.size w (w.alloc (.cells #[.slice A1 c.weights.length c1, .slice A2 c.tests.length c2] 36)) := (Below.refl _ _).alloc (Nat.le_refl _) _
  have hsz : (w.alloc (.cells #[.slice A1 c.weights.length c1, .slice A2 c.tests.length c2] 36)).heap.size = w.heap.size + 1 := by simp
  have n0 := newcell w #[.slice A1 c.weights.length c1, .slice A2 c.tests.length c2] 36 0
  have n1 := newcell w #[.slice A1 c.weights.length c1, .slice A2 c.tests.length c2] 36 1
  simp only [List.getElem?_toArray, List.getElem?_cons_succ, List.getElem?_cons_zero] at n0 n1
  have HN : Hid (∀ wx, Below (w.heap.size + 1) (w.alloc (.cells #[.slice A1 c.weights.length c1, .slice A2 c.tests.length c2] 36)) wx → wx.cell? ⟨w.heap.size, 0, none⟩ = some (.slice A1 c.weights.length c1) ∧ wx.cell? ⟨w.heap.size, 1, none⟩ = some (.slice A2 c.tests.length c2)) := fun wx hb => ⟨(bcell hb _ _ (by omega)).trans n0, (bcell hb _ _ (by omega)).trans n1⟩
  have HP := Lib.hid hp
  have HOK := Lib.hid hok
  have HIH := Lib.hid ih
  have HSS := Lib.hid hs
  have HCH := Lib.hid (chT_ok (c := c) (ord := ord) hm)
  have HM := Lib.hid hm
  have HLEN := Lib.hid hlen
  have hFl : F.length ≤ 1000000 := by omega
  obtain ⟨Av, vcap, hv, hvc⟩ := hp.out.lenV
  subst hv
  have hll := bitsI_len s
  have HLL := Lib.hid (bitsI_length s)
  obtain ⟨N, hNe⟩ : ∃ N, ord.length + c.tests.length = N := ⟨_, rfl⟩
  have eN : IntKind.i64.wrap ((ord.length : Int) + (c.tests.length : Int)) = (N : Int) := by rw [← hNe]; rw [IntWalk.i64_in _ (by omega)]; omega
  have hN2 : N ≤ 1012 := by omega
  have HNE := Lib.hid hNe
  clear hp hok ih hs hm hlen hc n0 n1 hvc hNe
  go_enter Tryd.func39, Tryd.ntmps39
  go_wp2_with fail
  go_loopw [9, 3] (fun vi v3 wr => ∃ i : Nat, i ≤ N ∧ vi = .int .i64 i ∧ v3 = .slice Av F.length vcap ∧ Hid (chT c ord s = chFrom c ord s (N - i) i) ∧ Hid (Below (w.heap.size + 1) (w.alloc (.cells #[.slice A1 c.weights.length c1, .slice A2 c.tests.length c2] 36)) wr)) (fun vi _ _ => N - (intOf vi).toNat)
  case atStart => exact ⟨0, Nat.zero_le _, rfl, rfl, (by show _ = _; rw [Nat.sub_zero, ← HNE.out]; rfl), Below.refl _ _⟩
  case round =>
    obtain ⟨i, hi, rfl, rfl, HCF, HB⟩ := hrel
    rename World => wr
    obtain ⟨p0, p1⟩ := HN.out wr HB.out
    have hsr := HB.out.size
    rw [hsz] at hsr
    have HBW : Hid (Below w.heap.size w wr) := hb1.trans (HB.out.mono (by omega))
    by_cases hlt : i < N
    rotate_left
    · obtain rfl : i = N := by omega
      have HLF : Hid (chT c ord s = -1) := by show _ = _; rw [HCF.out, Nat.sub_self]; rfl
      have HOV : Hid (∀ o : Obj, OutV (wr.alloc o) base U pv (.slice Av F.length vcap) F) := fun o => (HP.out.out.keep HBW.out).keep ((Below.refl _ _).alloc (Nat.le_refl _) _)
      have HFU : Hid (∀ o : Obj, ForkU (wr.alloc o) (fun b => U F.length b ∧ some b ≠ Value.ownBlock (.slice Av F.length vcap)) ((none, 0), (As, cs)) ⟨-1, [], bitsI s⟩) := fun o => ⟨fun h => absurd h (by simp), Nat.le_refl _, (HP.out.setAt (grown_of_below (HBW.out.alloc HBW.out.size o))).keep (Nat.le_refl _) (fun _ _ _ => rfl) (fun _ _ hu => hu.1), hcs⟩
      go_wp2_with (at_builtin; refine app_forkV _ rfl _ _ rfl base U pv _ F rfl (HOV.out _) _ rfl ⟨-1, [], bitsI s⟩ ((none, 0), (As, cs)) (HFU.out _) (newcell _ _ _ _) (newcell _ _ _ _) (newcell _ _ _ _) (by omega) (by simp; omega) ?_; intro g6 cap6 w6 hO6 hg6 hat6 _; have HO6 := Lib.hid hO6; have HG6 := Lib.hid hg6; have HAT := Lib.hid hat6; clear hO6 hg6 hat6)
      go_ret
      exact leaf_post HLF.out (HBW.out.alloc HBW.out.size _) HO6.out HG6.out HAT.out
    · have htl := tst_lt (c := c) (ord := ord) HM.out (i := i) (by rw [HNE.out]; exact hlt)
      obtain ⟨tn, htn⟩ : ∃ tn, tstAt c ord i = tn := ⟨_, rfl⟩
      rw [htn] at htl
      have HTN := Lib.hid htn
      have e1 : IntKind.i64.wrap ((i : Int) - (ord.length : Int)) = (i : Int) - (ord.length : Int) := IntWalk.i64_in _ (by omega)
      go_upto_if 34 with fail
      go_cut [10] (fun u wx => u = .int .i64 tn ∧ Hid (Below (w.heap.size + 1) (w.alloc (.cells #[.slice A1 c.weights.length c1, .slice A2 c.tests.length c2] 36)) wx))
      case first =>
        by_cases hio : i < ord.length
        · obtain ⟨ob, oo, hAo, hob, o0⟩ := (HP.out.io.keep (HBW.out.mono (by omega))).at_ hio
          subst hAo
          obtain ⟨z, hz⟩ : ∃ z, ord.getD i 0 = z := ⟨_, rfl⟩
          have hmp : 0 < (c.tests.length : Int) := by omega
          have h1 := Int.lt_tmod_of_pos z hmp
          have h2 := Int.tmod_lt_of_pos z hmp
          have htv : tstAt c ord i = ((z.tmod c.tests.length + c.tests.length).tmod c.tests.length).toNat := by unfold tstAt; rw [if_pos hio, hz]
          have h3 : 0 ≤ (z.tmod c.tests.length + c.tests.length).tmod c.tests.length := Int.tmod_nonneg _ (by omega)
          have e3 : (z.tmod c.tests.length + c.tests.length).tmod c.tests.length = (tn : Int) := by rw [← htn, htv, Int.toNat_of_nonneg h3]
          rw [hz] at o0
          clear htv htn h3 hz
          obtain ⟨r, hr⟩ : ∃ r, z.tmod (c.tests.length : Int) = r := ⟨_, rfl⟩
          rw [hr] at e3 h1 h2
          have e2 : IntKind.i64.wrap (r + (c.tests.length : Int)) = r + (c.tests.length : Int) := IntWalk.i64_in _ (by omega)
          have e4 : IntKind.i64.wrap r = r := IntWalk.i64_in _ (by omega)
          have e5 : IntKind.i64.wrap (tn : Int) = (tn : Int) := IntWalk.i64_in _ (by omega)
          have hm0 : ¬ ((c.tests.length : Int) = 0) := by omega
          go_wp2_with fail
          go_quiet (fail)
          go_wp2_with fail
          go_meet
          exact ⟨rfl, below_drewN HB.out _⟩
        · have e2 : (i : Int) - (ord.length : Int) = (tn : Int) := by rw [← htn]; unfold tstAt; rw [if_neg hio]; omega
          go_wp2_with fail
          go_meet
          exact ⟨by rw [e2], HB.out⟩
      case rest =>
        obtain ⟨rfl, HBC⟩ := hcut
        rename World => wc
        clear e1 htn HB HBW hsr p0 p1
        have hsc := HBC.out.size
        rw [hsz] at hsc
        have HBW : Hid (Below w.heap.size w wc) := hb1.trans (HBC.out.mono (by omega))
        obtain ⟨p, tb, tf, Ap, cp, htp, hA2, htb, _, m1, hcp, hIp⟩ := (HP.out.ca.keep (HBW.out.mono (by omega))).ts.at_ htl
        subst hA2
        have hpo := HOK.out.p tn p htp
        have HTP := Lib.hid (testAt_of htp)
        have HBT : Hid (∀ k, k < (bitsOf s).length → (bitsOf s).getD k 0 < c.weights.length) := fun k hk => bits_at_lt HSS.out hk
        have HPO := Lib.hid hpo
        have HIP : Hid (∀ wx, Below wc.heap.size wc wx → wx.cell? ⟨tb, tf + tn * 2 + 1, none⟩ = some (.slice Ap p.outs.length cp) ∧ IntsA wx B0 Ap p.outs) := fun wx hb => ⟨(bcell hb _ _ (by omega)).trans m1, hIp.keep (hb.mono (by omega))⟩
        have HIS : Hid (∀ wx, Below wc.heap.size wc wx → IntsA wx wx.heap.size As (bitsI s)) := fun wx hb => (HP.out.setAt (grown_of_below (HBW.out.trans (hb.mono (by omega))))).ints (by unfold maxLen; omega)
        have HNC : Hid (∀ wx, Below wc.heap.size wc wx → wx.cell? ⟨w.heap.size, 0, none⟩ = some (.slice A1 c.weights.length c1) ∧ wx.cell? ⟨w.heap.size, 1, none⟩ = some (.slice (some ⟨tb, tf, none⟩) c.tests.length c2)) := fun wx hb => HN.out wx (HBC.out.trans (hb.mono (by omega)))
        clear htp hpo m1 hcp hIp
        go_wp2_with (at_make; refine mk_rows4 _ rfl _ _ rfl rfl rfl ?_; intro w2 hO2 hb2; have HO2 := Lib.hid hO2; have HB2 := Lib.hid hb2; clear hO2 hb2)
        go_loopw [13, 12] (fun vi vm wx => ∃ k : Nat, k ≤ (bitsI s).length ∧ vi = .int .i64 k ∧ vm = .int .i64 (manyL p.outs ((bitsOf s).take k)) ∧ Hid (OutRR wx wc.heap.size (.slice (some ⟨wc.heap.size, 0, none⟩) 4 4) (rowsS p.outs ((bitsOf s).take k))) ∧ Hid (Below wc.heap.size wc wx)) (fun vi _ _ => (bitsI s).length - (intOf vi).toNat)
        case atStart => exact ⟨0, Nat.zero_le _, rfl, rfl, HO2.out, HB2.out⟩
        case round =>
          clear HO2 HB2
          obtain ⟨k, hk, rfl, rfl, HO, HBX⟩ := hrel
          rename World => wx
          have hsx := HBX.out.size
          by_cases hkl : k < (bitsI s).length
          · have hkb : k < (bitsOf s).length := by rw [← HLL.out]; exact hkl
            have hx := HBT.out k hkb
            obtain ⟨ib, io, hA, hib, i0⟩ := (HIS.out wx HBX.out).at_ hkl
            subst hA
            rw [bitsI_get hkb] at i0
            have HTK : Hid ((bitsOf s).take (k + 1) = (bitsOf s).take k ++ [(bitsOf s).getD k 0]) := by
              show _ = _
              rw [List.take_add_one, List.getElem?_eq_getElem hkb, List.getD_eq_getElem?_getD, List.getElem?_eq_getElem hkb]
              rfl
            obtain ⟨hpc, hpl, hpr⟩ := HPO.out
            obtain ⟨x, hxe⟩ : ∃ x, (bitsOf s).getD k 0 = x := ⟨_, rfl⟩
            rw [hxe] at hx i0 HTK
            obtain ⟨r1, hIp1⟩ := HIP.out wx HBX.out
            obtain ⟨ob, oo, hAp, hob, o0⟩ := hIp1.at_ (show x < p.outs.length by omega)
            subst hAp
            have hr := hpr x (by omega)
            obtain ⟨o, ho⟩ : ∃ o : Nat, p.outs.getD x 0 = (o : Int) := ⟨(p.outs.getD x 0).toNat, by omega⟩
            rw [ho] at o0 hr
            have ho4 : o < 4 := by omega
            have hxl : x < p.outs.length := by omega
            obtain ⟨p0, p1⟩ := HNC.out wx HBX.out
            have HRS : Hid (rowsS p.outs ((bitsOf s).take (k + 1)) = (rowsS p.outs ((bitsOf s).take k)).set o (nI (partN p.outs o ((bitsOf s).take k)) ++ [(x : Int)])) := by
              show _ = _
              rw [HTK.out]
              exact rowsS_snoc ho4 ho
            have HMS : Hid (manyL p.outs ((bitsOf s).take (k + 1)) = manyL p.outs ((bitsOf s).take k) + if (nI (partN p.outs o ((bitsOf s).take k))).length = 0 then 1 else 0) := by
              show _ = _
              rw [HTK.out, manyL_snoc ho4 ho, nI_len]
            have hml := manyL_le p.outs ((bitsOf s).take k)
            have hrl : o < (rowsS p.outs ((bitsOf s).take k)).length := by unfold rowsS; simp; exact ho4
            have HRA : Hid ((rowsS p.outs ((bitsOf s).take k)).getD o [] = nI (partN p.outs o ((bitsOf s).take k))) := rowsS_at ho4
            have hpn : (nI (partN p.outs o ((bitsOf s).take k))).length ≤ 12 := by
              rw [nI_len]
              refine Nat.le_trans (partN_len _ _ _) ?_
              rw [List.length_take]
              have := bitsOf_len s
              omega
            generalize nI (partN p.outs o ((bitsOf s).take k)) = R at *
            generalize manyL p.outs ((bitsOf s).take k) = mm at *
            have hcp' : c.tests.length ≤ maxLen := by unfold maxLen; omega
            have ho5 : (o : Int) < 4 := by omega
            clear hxe ho hpc hpl hpr hr hIp1
            go_upto_region 13 with (go_quiet (fail))
            obtain ⟨w4, hw4⟩ : ∃ w4, w4 = wx.drewN nq := ⟨_, rfl⟩
            have HB4 : Hid (Below wc.heap.size wc w4) := by rw [hw4]; exact below_drewN HBX.out _
            have i4 : w4.cell? ⟨ib, io + k, none⟩ = some (.int .i64 (x : Int)) := by rw [hw4]; exact i0
            have HO4 : Hid (OutRR w4 wc.heap.size (.slice (some ⟨wc.heap.size, 0, none⟩) 4 4) (rowsS p.outs ((bitsOf s).take k))) := by rw [hw4]; exact HO.out
            rw [← hw4]
            clear hw4 i0 r1 o0 p0 p1 HBX HO hsx
            have hs4 := HB4.out.size
            have hgl4 : wc.heap.size < w4.heap.size := (HO4.out.lt wc.heap.size rfl).2
            have HO6 : Hid (OutRR (w4.drew.alloc (.cells #[.int .i64 x] 3)) wc.heap.size (.slice (some ⟨wc.heap.size, 0, none⟩) 4 4) (rowsS p.outs ((bitsOf s).take k))) := HO4.out.keep fun g _ hg => Below.heap_alloc w4 _ g hg
            obtain ⟨g', cap', vi, hv', _, hgl', m0', f0', hOi', hvg', hset'⟩ := HO6.out.at_ hrl
            injection hv' with hA' hln' hcap'
            injection hA' with hA'
            injection hA' with hA'
            subst hA'
            clear hln' hcap'
            rw [HRA.out] at hOi'
            obtain ⟨Ai, ci, hvi, _, _⟩ := hOi'.reads
            subst hvi
            have m4 : w4.cell? ⟨wc.heap.size, o, none⟩ = some (.slice Ai R.length ci) := (acell w4 (.cells #[.int .i64 x] 3) wc.heap.size o hgl4).symm.trans m0'
            have HOi := Lib.hid hOi'
            have HOI := Lib.hid (own_block_lt hOi')
            have HST := Lib.hid hset'
            have HQ0 := Lib.hid (newcell w4.drew #[.int .i64 x] 3 0)
            have hl6 : R.length ≤ 1000000 := by omega
            have hs6 : wc.heap.size ≤ (w4.drew.alloc (.cells #[.int .i64 x] 3)).heap.size := by simp; omega
            have HVG := Lib.hid hvg'
            have HM0 := Lib.hid m0'
            have HF0 := Lib.hid f0'
            have HGL := Lib.hid hgl'
            have HB6 := Lib.hid (HB4.out.drew.alloc (by simpa using hs4) (Obj.cells #[.int .i64 x] 3))
            clear hset' hOi' hvg' m0' f0' hgl'
            by_cases hR0 : R.length = 0
            · have e9 : ((R.length : Int) == 0) = true := by rw [hR0]; rfl
              have HM2 : Hid (manyL p.outs ((bitsOf s).take (k + 1)) = mm + 1) := by show _ = _; rw [HMS.out, if_pos hR0]
              clear hR0
              go_wp2_with fail
              go_region_law ((refine step_app_int _ (by rfl) _ _ (by rfl) wc.heap.size _ R (by rfl) HOi.out w4.heap.size x (by rfl) HQ0.out hl6 hs6 _ (by rfl) ?_; intro g7 q7 w7 hO7 hg7 hat7; have c7 := (hg7.cell_far ⟨wc.heap.size, o, none⟩ HGL.out (fun e => HVG.out e.symm)).trans HM0.out; have f7 := (hg7.frozen_far ⟨wc.heap.size, o, none⟩ HGL.out (fun e => HVG.out e.symm)).trans HF0.out; have HO7 := Lib.hid hO7; have HG7 := Lib.hid hg7; have HAT := Lib.hid hat7; clear hO7 hg7 hat7))
              all_goals
                go_wp2_with fail
                go_roundw
                case rel =>
                  refine ⟨k + 1, by omega, by go_num, by rw [HM2.out]; go_num, ?_, ?_⟩
                  · rw [HRS.out]
                    exact HST.out w7 w7 _ _ HG7.out HO7.out (HAT.out.imp (fun e => e.symm) (fun e => by rw [e]; rfl)) rfl
                  · exact (HB6.out.grown HG7.out (by simp; omega) (fun b hb => (HOI.out b hb).1)).setCell (p := ⟨wc.heap.size, o, none⟩) (Nat.le_refl _) _
                case measure => simp [intOf]; omega
            · have e9 : ((R.length : Int) == 0) = false := by simpa using hR0
              have HM2 : Hid (manyL p.outs ((bitsOf s).take (k + 1)) = mm) := by show _ = _; rw [HMS.out, if_neg hR0]; rfl
              clear hR0
              go_wp2_with fail
              go_region_law ((refine step_app_int _ (by rfl) _ _ (by rfl) wc.heap.size _ R (by rfl) HOi.out w4.heap.size x (by rfl) HQ0.out hl6 hs6 _ (by rfl) ?_; intro g7 q7 w7 hO7 hg7 hat7; have c7 := (hg7.cell_far ⟨wc.heap.size, o, none⟩ HGL.out (fun e => HVG.out e.symm)).trans HM0.out; have f7 := (hg7.frozen_far ⟨wc.heap.size, o, none⟩ HGL.out (fun e => HVG.out e.symm)).trans HF0.out; have HO7 := Lib.hid hO7; have HG7 := Lib.hid hg7; have HAT := Lib.hid hat7; clear hO7 hg7 hat7))
              all_goals
                go_wp2_with fail
                go_roundw
                case rel =>
                  refine ⟨k + 1, by omega, by go_num, by rw [HM2.out], ?_, ?_⟩
                  · rw [HRS.out]
                    exact HST.out w7 w7 _ _ HG7.out HO7.out (HAT.out.imp (fun e => e.symm) (fun e => by rw [e]; rfl)) rfl
                  · exact (HB6.out.grown HG7.out (by simp; omega) (fun b hb => (HOI.out b hb).1)).setCell (p := ⟨wc.heap.size, o, none⟩) (Nat.le_refl _) _
                case measure => simp [intOf]; omega
          · obtain rfl : k = (bitsI s).length := by omega
            have hRe : manyL p.outs ((bitsOf s).take (bitsI s).length) = partsTo p.outs s 4 := by rw [HLL.out, List.take_length]; exact manyL_bits hs12
            rw [hRe]
            have HOP : Hid (OutRR wx wc.heap.size (.slice (some ⟨wc.heap.size, 0, none⟩) 4 4) (partsI p.outs s)) := by
              have h9 := HO.out
              rw [HLL.out, List.take_length, rowsS_bits hs12] at h9
              exact h9
            obtain ⟨R, hR⟩ : ∃ R, partsTo p.outs s 4 = R := ⟨_, rfl⟩
            have hR4 : R ≤ 4 := by rw [← hR]; exact partsTo_le _ _ _
            rw [hR]
            have HRR := Lib.hid hR
            clear hRe hR HO
            by_cases hR2 : R < 2
            · have e9 : decide ((R : Int) < 2) = true := decide_eq_true (by omega)
              have HNX : Hid (chT c ord s = chFrom c ord s (N - (i + 1)) (i + 1)) := by
                show _ = _
                rw [HCF.out, show N - i = (N - (i + 1)) + 1 by omega, chFrom_miss]
                rw [HTN.out, HTP.out, HRR.out]
                omega
              clear hR2
              go_wp2_with fail
              go_roundw
              case rel => exact ⟨i + 1, by omega, by go_num, rfl, HNX.out, HBC.out.trans (HBX.out.mono (by omega))⟩
              case measure => simp [intOf]; omega
            · have e9 : decide ((R : Int) < 2) = false := decide_eq_false (by omega)
              have hsx2 := HBX.out.size
              have HBP : Hid (Below w.heap.size w wx) := HBW.out.trans (HBX.out.mono (by omega))
              have HCT : Hid (chT c ord s = (tn : Int)) := by
                show _ = _
                rw [HCF.out, show N - i = (N - (i + 1)) + 1 by omega, chFrom_hit (by rw [HTN.out, HTP.out, HRR.out]; omega), HTN.out]
              have HGF : Hid (growG (chT c ord) c s F.length = ⟨(tn : Int), (kidsF (growG (chT c ord) c) p.outs s F.length 4).2, bitsI s⟩ :: (kidsF (growG (chT c ord) c) p.outs s F.length 4).1) := by
                show _ = _
                rw [growG_fork HOK.out HCH.out HSS.out (by rw [HCT.out]; omega), HCT.out, HTP.out]
              have HK4 : Hid (F.length + 1 + (kidsF (growG (chT c ord) c) p.outs s F.length 4).1.length ≤ 1000000) := by
                have h9 := HLEN.out
                rw [HGF.out, List.length_cons] at h9
                show _ ≤ _
                omega
              have HTW := Lib.hid (fun o => partsTo_two (outs := p.outs) (s := s) (o := o) (k := 4) (by rw [HRR.out]; omega))
              have hvlt := HP.out.own_lt
              have HVL := Lib.hid hvlt
              have HROW : Hid (∀ o, o < 4 → ∀ wy, wx.grownBy wy (Value.ownBlock (.slice Av F.length vcap)) → ∃ Ar cr, wy.cell? ⟨wc.heap.size, o, none⟩ = some (.slice Ar (bitsI (partS p.outs s o)).length cr) ∧ (bitsI (partS p.outs s o)).length ≤ cr ∧ IntsU wy (fun b => w.heap.size ≤ b ∧ b < wx.heap.size) Ar (bitsI (partS p.outs s o))) := fun o ho wy hg => by
                have hlt := HOP.out.lt wc.heap.size rfl
                obtain ⟨Ar, cr, h1, h2, h3⟩ := row_at (w0 := w) HOP.out ho (by have := HBW.out.size; omega)
                refine ⟨Ar, cr, (hg.cell_far ⟨wc.heap.size, o, none⟩ hlt.2 (fun e => ?_)).trans h1, h2, h3.keep hg.size (fun b hb hu => hg.block b hb fun e => ?_) (fun _ _ hu => hu)⟩
                · have := HVL.out _ e.symm
                  have := HBW.out.size
                  have h9 : w.heap.size ≤ wc.heap.size := this
                  simp only at *
                  omega
                · have := HVL.out _ e.symm
                  have := hu.1
                  omega
              have HOV : Hid (∀ o1 o2 : Obj, OutV ((wx.alloc o1).alloc o2) base (fun i b => U i b ∧ (i ≠ F.length → b ≠ wx.heap.size)) pv (.slice Av F.length vcap) F) := fun o1 o2 => (((HP.out.out.keep HBP.out).reU fun i _ b hb hu => ⟨hu, fun _ => by omega⟩).keep ((Below.refl _ _).alloc (Nat.le_refl _) _)).keep ((Below.refl _ _).alloc (Nat.le_refl _) _)
              have HFU : Hid (∀ o2 : Obj, ForkU ((wx.alloc (.cells #[.int .i64 (-1), .int .i64 (-1), .int .i64 (-1), .int .i64 (-1)] 3)).alloc o2) (fun b => (U F.length b ∧ (F.length ≠ F.length → b ≠ wx.heap.size)) ∧ some b ≠ Value.ownBlock (.slice Av F.length vcap)) ((some ⟨wx.heap.size, 0, none⟩, 4), (As, cs)) ⟨(tn : Int), [-1, -1, -1, -1], bitsI s⟩) := fun o2 => by
                refine ⟨fun _ => ⟨wx.heap.size, 0, rfl, by simp; omega, ⟨⟨HP.out.hU _ (Nat.le_refl _) _ HBP.out.size, fun h => absurd rfl h⟩, fun e => ?_⟩, fun j hj => ?_⟩, Nat.le_refl _, (HP.out.setAt (grown_of_below ((HBP.out.alloc HBP.out.size (.cells #[.int .i64 (-1), .int .i64 (-1), .int .i64 (-1), .int .i64 (-1)] 3)).alloc (by have := HBP.out.size; simp; omega) o2))).keep (Nat.le_refl _) (fun _ _ _ => rfl) (fun _ _ hu => ⟨⟨hu.1.1, fun h => absurd rfl h⟩, hu.1.2⟩), hcs⟩
                · have := (HVL.out _ e.symm).2
                  have := HBP.out.size
                  omega
                · rw [Nat.zero_add, acell _ _ _ _ (by simp), newcell]
                  have hj : j < 4 := hj
                  rcases (show j = 0 ∨ j = 1 ∨ j = 2 ∨ j = 3 by omega) with rfl | rfl | rfl | rfl <;> rfl
              have HNB : Hid (∀ o2 : Obj, OwnF ((wx.alloc (.cells #[.int .i64 (-1), .int .i64 (-1), .int .i64 (-1), .int .i64 (-1)] 3)).alloc o2) wx.heap.size 3 4 (fun j => .int .i64 (([-1, -1, -1, -1] : List Int).getD j 0))) := fun o2 => (own_new wx #[.int .i64 (-1), .int .i64 (-1), .int .i64 (-1), .int .i64 (-1)] 3 (n := 4) (f := fun j => .int .i64 (([-1, -1, -1, -1] : List Int).getD j 0)) (by simp) (fun j hj => by
                rcases (show j = 0 ∨ j = 1 ∨ j = 2 ∨ j = 3 by omega) with rfl | rfl | rfl | rfl <;> rfl)).alloc o2
              have hsw := HBP.out.size
              have HGX : Hid (∀ o1 o2 : Obj, wx.grownBy ((wx.alloc o1).alloc o2) (Value.ownBlock (.slice Av F.length vcap))) := fun o1 o2 => grown_of_below (((Below.refl _ _).alloc (Nat.le_refl _) _).alloc (by simp) _)
              have HBOX : Hid (∀ wy, wx.grownBy wy (Value.ownBlock (.slice Av F.length vcap)) → wy.cell? ⟨w.heap.size, 0, none⟩ = some (.slice A1 c.weights.length c1) ∧ wy.cell? ⟨w.heap.size, 1, none⟩ = some (.slice (some ⟨tb, tf, none⟩) c.tests.length c2)) := fun wy hg => by
                obtain ⟨q0, q1⟩ := HNC.out wx HBX.out
                have hne : some w.heap.size ≠ Value.ownBlock (.slice Av F.length vcap) := fun e => by have := (HVL.out _ e.symm).2; omega
                exact ⟨(hg.cell_far ⟨w.heap.size, 0, none⟩ (show w.heap.size < wx.heap.size by omega) hne).trans q0, (hg.cell_far ⟨w.heap.size, 1, none⟩ (show w.heap.size < wx.heap.size by omega) hne).trans q1⟩
              have hpgx : wc.heap.size < wx.heap.size := (HOP.out.lt wc.heap.size rfl).2
              clear HOP HRR hvlt hR2
              go_wp2_with (at_builtin; refine app_forkV _ rfl _ _ rfl base (fun i b => U i b ∧ (i ≠ F.length → b ≠ wx.heap.size)) pv _ F rfl (HOV.out _ _) _ rfl ⟨(tn : Int), [-1, -1, -1, -1], bitsI s⟩ ((some ⟨wx.heap.size, 0, none⟩, 4), (As, cs)) (HFU.out _) (newcell' (by simp)) (newcell' (by simp)) (newcell' (by simp)) (by omega) (by simp; omega) ?_; intro g6 cap6 w6 hO6 hg6 hat6 _; have HO6 := Lib.hid hO6; have HG6 := Lib.hid (grown_far (HGX.out _ _) hg6 (fun k hk => Or.inl hk)); have HAT : Hid (∀ k, Value.ownBlock (.slice (some ⟨g6, 0, none⟩) (F.length + 1) cap6) = some k → Value.ownBlock (.slice Av F.length vcap) = some k ∨ wx.heap.size ≤ k) := (fun k hk => by { injection hk with hk; subst hk; exact hat6.imp id (fun e => by rw [e]; simp; omega) }); have HN6 := Lib.hid ((HNB.out _).grown hg6 (fun e => by have := (HVL.out _ e.symm).2; omega)); clear hO6 hg6 hat6)
              clear HOV HFU HNB HGX
              go_loopw [16, 3] (fun vo vv wy => ∃ (o M cap : Nat) (A : Option Addr) (K : List MFork) (L : List Int) (pvx : PV), o ≤ 4 ∧ vo = .int .i64 o ∧ vv = .slice A M cap ∧ M = F.length + 1 + K.length ∧ Hid (kidsF (growG (chT c ord) c) p.outs s F.length o = (K, L)) ∧ Hid (OutV wy base (fun i b => U i b ∧ (i ≠ F.length → b ≠ wx.heap.size)) pvx vv (F ++ ⟨(tn : Int), L ++ List.replicate (4 - o) (-1), bitsI s⟩ :: K)) ∧ Hid (pvx F.length = ((some ⟨wx.heap.size, 0, none⟩, 4), (As, cs))) ∧ Hid (∀ i, i < F.length → pvx i = pv i) ∧ Hid (OwnF wy wx.heap.size 3 4 (fun j => .int .i64 ((L ++ List.replicate (4 - o) (-1)).getD j 0))) ∧ Hid (wx.grownBy wy (Value.ownBlock (.slice Av F.length vcap))) ∧ Hid (∀ k, vv.ownBlock = some k → Value.ownBlock (.slice Av F.length vcap) = some k ∨ wx.heap.size ≤ k)) (fun vo _ _ => 4 - (intOf vo).toNat)
              case atStart => exact ⟨0, F.length + 1, cap6, some ⟨g6, 0, none⟩, [], [], _, by omega, rfl, rfl, rfl, rfl, HO6.out, if_pos rfl, fun i hi => if_neg (by omega), HN6.out, HG6.out, HAT.out⟩
              case round =>
                clear HO6 HN6 HG6 HAT
                obtain ⟨o, M, cap, A, K, L, pvx, ho4, rfl, rfl, hM, HKL, HOX, HPN, HPV, HNX, HGY, HAX⟩ := hrel
                rename World => wy
                by_cases ho : o < 4
                · have hL : L.length = o := by
                    have h9 := kidsF_len (growG (chT c ord) c) p.outs s F.length o
                    rw [HKL.out] at h9
                    exact h9
                  have hFl2 : (F ++ (⟨(tn : Int), L ++ List.replicate (4 - o) (-1), bitsI s⟩ : MFork) :: K).length = M := by rw [List.length_append, List.length_cons, hM]; omega
                  have hnl : (L ++ List.replicate (4 - o) (-1 : Int)).length = 4 := by rw [List.length_append, List.length_replicate, hL]; omega
                  have hFM : F.length < M := by omega
                  have hnx := HOX.out.nextCell (n := F.length) (by omega)
                  rw [get_mid, HPN.out, hFl2] at hnx
                  obtain ⟨g, cap9, hvg, hgb, hgl, t9⟩ := hnx
                  injection hvg with hA _ hcap9
                  subst hA
                  subst hcap9
                  have t0 : wy.cell? ⟨g, F.length * 3 + 1, none⟩ = some (.slice (some ⟨wx.heap.size, 0, none⟩) 4 4) := by rw [t9, hnl]
                  clear t9
                  have k0 := HNX.out.cell ho
                  have kf := HNX.out.frozen o
                  obtain ⟨Ar, cr, r0, hcr, hIr⟩ := HROW.out o ho wy HGY.out
                  have hlx := bitsI_len (partS p.outs s o)
                  have hnbo := HOX.out.notOwn (n := F.length) (nb := wx.heap.size) (by omega) (by rw [HPN.out]) (by rw [get_mid]; show 0 < (L ++ List.replicate (4 - o) (-1 : Int)).length; omega)
                  have HGW : Hid (w.grownBy wy (Value.ownBlock (.slice Av F.length vcap))) := grown_far (grown_of_below HBP.out) HGY.out (fun k hk => Or.inl hk)
                  have hpos := bitsI_pos (partS_lt p.outs s o)
                  obtain ⟨p0, p1⟩ := HNC.out wx HBX.out
                  by_cases hx : 0 < partS p.outs s o
                  · obtain ⟨q, _, hqo, hq2⟩ := HTW.out o
                    have hxs : partS p.outs s o < s := partS_ne hs12 (fun e => hqo e.symm) hq2
                    have HKY : Hid (kidsF (growG (chT c ord) c) p.outs s F.length (o + 1) = (K ++ growG (chT c ord) c (partS p.outs s o) M, L ++ [(M : Int)])) := by
                      show _ = _
                      rw [kidsF_yes hx, HKL.out]
                      show (K ++ growG _ c _ (F.length + 1 + K.length), L ++ [((F.length + 1 + K.length : Nat) : Int)]) = _
                      rw [← hM]
                    have hml : F.length + 1 + (kidsF (growG (chT c ord) c) p.outs s F.length (o + 1)).1.length ≤ 1000000 := by
                      have h9 := kidsF_mono (growG (chT c ord) c) p.outs s F.length (o + 1) (4 - (o + 1))
                      rw [show o + 1 + (4 - (o + 1)) = 4 by omega] at h9
                      exact Nat.le_trans (Nat.add_le_add_left h9 _) HK4.out
                    rw [HKY.out, List.length_append] at hml
                    have hset := HOX.out.setIn (n := F.length) (nb := wx.heap.size) (o := o) (by omega) (by rw [HPN.out]) (by
                      rw [get_mid, HPN.out]
                      exact (HP.out.setAt HGW.out).keep (Nat.le_refl _) (fun _ _ _ => rfl) (fun b _ hu => by have := hu.2; omega)) (fun i hi b hu => hu.2 hi) (by rw [get_mid, hnl]; exact ho) (by rw [get_mid, hnl]; exact HNX.out) (M : Int)
                    rw [get_mid, set_mid, rep_set hL ho] at hset
                    have HOS := Lib.hid hset
                    have HNS : Hid (OwnF (wy.setCell ⟨wx.heap.size, o, none⟩ (.int .i64 M)) wx.heap.size 3 4 (fun j => .int .i64 (((L ++ [(M : Int)]) ++ List.replicate (4 - (o + 1)) (-1)).getD j 0))) := (HNX.out.set o (.int .i64 M)).congr fun j hj => by
                      rw [← rep_set hL ho]
                      by_cases e : j = o
                      · subst e
                        rw [if_pos rfl, List.getD_eq_getElem?_getD, List.getElem?_set_self (by omega)]
                        rfl
                      · rw [if_neg e, List.getD_eq_getElem?_getD (l := List.set _ _ _), List.getElem?_set_ne (fun e3 => e e3.symm), List.getD_eq_getElem?_getD]
                    have hFl3 : (F ++ (⟨(tn : Int), (L ++ [(M : Int)]) ++ List.replicate (4 - (o + 1)) (-1), bitsI s⟩ : MFork) :: K).length = M := by rw [List.length_append, List.length_cons, hM]; omega
                    have HGS : Hid (wx.grownBy (wy.setCell ⟨wx.heap.size, o, none⟩ (.int .i64 M)) (Value.ownBlock (.slice Av F.length vcap))) := grown_set HGY.out (Nat.le_refl _) _
                    have hsy := HGY.out.size
                    have HPR : Hid (GrownPre (wy.setCell ⟨wx.heap.size, o, none⟩ (.int .i64 M)).drew B0 base A1 (some ⟨tb, tf, none⟩) c Ao ord (fun i b => U i b ∧ (i ≠ F.length → b ≠ wx.heap.size)) pvx (.slice (some ⟨g, 0, none⟩) M cap) (F ++ (⟨(tn : Int), (L ++ [(M : Int)]) ++ List.replicate (4 - (o + 1)) (-1), bitsI s⟩ : MFork) :: K) Ar (partS p.outs s o)) := by
                      have hbw : Below base w (wy.setCell ⟨wx.heap.size, o, none⟩ (.int .i64 M)).drew := (((Below.refl base w).grown HGW.out hbs (fun k hk => (HVL.out k hk).1)).setCell (p := ⟨wx.heap.size, o, none⟩) (show base ≤ wx.heap.size by omega) _).drew
                      refine ⟨HP.out.ca.keep (hbw.mono hb00), HP.out.io.keep (hbw.mono hb00), hb00, by have := hbw.size; omega, HOS.out.keep (Below.refl _ _).drew, fun i hi b hb => ⟨HP.out.hU i (by rw [hFl3] at hi; omega) b ?_, fun _ => ?_⟩, ?_⟩
                      · have := HBP.out.size
                        have hb : (wy.setCell ⟨wx.heap.size, o, none⟩ (.int .i64 M)).heap.size ≤ b := hb
                        rw [World.size_setCell] at hb
                        omega
                      · have hb : (wy.setCell ⟨wx.heap.size, o, none⟩ (.int .i64 M)).heap.size ≤ b := hb
                        rw [World.size_setCell] at hb
                        have := HNX.out.lt
                        omega
                      · refine hIr.keep (by simp) (fun b hb hu => Below.heap_setCell wy ⟨wx.heap.size, o, none⟩ _ b (show b ≠ wx.heap.size by have := hu.2; omega)) (fun b hb hu => ⟨⟨HP.out.hU _ (by rw [hFl3]; omega) b hu.1, fun _ => by have := hu.2; omega⟩, fun e => ?_⟩)
                        rcases HAX.out b e.symm with e2 | e2
                        · have := (HVL.out b e2).2
                          have := hu.1
                          omega
                        · have := hu.2
                          omega
                    have HIX : Hid (Calls Tryd.prog 39 #[.agg #[.slice A1 c.weights.length c1, .slice (some ⟨tb, tf, none⟩) c.tests.length c2], .slice Ar (bitsI (partS p.outs s o)).length cr, .slice Ao ord.length co, .slice (some ⟨g, 0, none⟩) M cap] (wy.setCell ⟨wx.heap.size, o, none⟩ (.int .i64 M)).drew (GrownPost (wy.setCell ⟨wx.heap.size, o, none⟩ (.int .i64 M)).drew base c (chT c ord) (fun i b => U i b ∧ (i ≠ F.length → b ≠ wx.heap.size)) pvx (.slice (some ⟨g, 0, none⟩) M cap) (F ++ (⟨(tn : Int), (L ++ [(M : Int)]) ++ List.replicate (4 - (o + 1)) (-1), bitsI s⟩ : MFork) :: K) (partS p.outs s o))) := HIH.out _ hxs _ Ar cr _ pvx _ _ HPR.out hcr (by rw [hFl3]; omega)
                    have pgx : wc.heap.size ≠ wx.heap.size := by omega
                    have s0 : (wy.setCell ⟨wx.heap.size, o, none⟩ (.int .i64 M)).cell? ⟨wc.heap.size, o, none⟩ = some (.slice Ar (bitsI (partS p.outs s o)).length cr) := (cell_far2 pgx).trans r0
                    obtain ⟨y0, y1⟩ := HBOX.out wy HGY.out
                    have s1 : (wy.setCell ⟨wx.heap.size, o, none⟩ (.int .i64 M)).cell? ⟨w.heap.size, 0, none⟩ = some (.slice A1 c.weights.length c1) := (cell_far2 (by omega)).trans y0
                    have s2 : (wy.setCell ⟨wx.heap.size, o, none⟩ (.int .i64 M)).cell? ⟨w.heap.size, 1, none⟩ = some (.slice (some ⟨tb, tf, none⟩) c.tests.length c2) := (cell_far2 (by omega)).trans y1
                    obtain ⟨lx, hlxe⟩ : ∃ lx, (bitsI (partS p.outs s o)).length = lx := ⟨_, rfl⟩
                    have hl0 : 0 < lx := by rw [← hlxe]; exact hpos.2 hx
                    have e7 : decide (0 < (lx : Int)) = true := decide_eq_true (by omega)
                    rw [hlxe] at r0 s0 HIX
                    have ho4i : (o : Int) < 4 := by omega
                    have hFMi : (F.length : Int) < M := by omega
                    have HNBO : Hid (some wx.heap.size ≠ Value.ownBlock (.slice (some ⟨g, 0, none⟩) M cap)) := hnbo
                    have hws : wx.heap.size ≤ (wy.setCell ⟨wx.heap.size, o, none⟩ (.int .i64 M)).drew.heap.size := by
                      show wx.heap.size ≤ (wy.setCell ⟨wx.heap.size, o, none⟩ (.int .i64 M)).heap.size
                      rw [World.size_setCell]
                      omega
                    have HMM := Lib.hid hM
                    have HF3 := Lib.hid hFl3
                    clear hset hnbo hlxe hpos y0 y1 p0 p1 hIr hqo hq2 hlx hM hFl3 hFl2 hnl hL
                    go_wp2_with fail
                    clear t0 k0 kf r0
                    refine wp_region_quiet_tail 7 (by kernel_rfl) (by kernel_rfl) ?_
                    simp only [List.take_succ_cons, List.take_zero, List.drop_succ_cons, List.drop_zero]
                    repeat (go_big_quiet_step (fail))
                    refine wpQuiet_nil ?_
                    go_wp2_with (go_at_call 39; (with_reducible refine HIX.out.mono ?_); rintro e w7 ⟨v7, pv7, rfl, hO7, hpv7, hg7, hat7⟩; obtain ⟨A7, cap7, hv7, _⟩ := hO7.lenV; have HO7 := Lib.hid hO7; have HP7 := Lib.hid hpv7; have HG7 := Lib.hid hg7; have HA7 := Lib.hid hat7; have HV7 := Lib.hid hv7; clear hO7 hpv7 hg7 hat7 hv7)
                    go_roundw
                    case rel =>
                      refine ⟨o + 1, M + (growG (chT c ord) c (partS p.outs s o) M).length, cap7, A7, K ++ growG (chT c ord) c (partS p.outs s o) M, L ++ [(M : Int)], pv7, by omega, by go_num, ?_, ?_, HKY.out, ?_, ?_, ?_, ?_, ?_, ?_⟩
                      · have h9 := HV7.out
                        rw [List.length_append, HF3.out] at h9
                        exact h9
                      · have hM := HMM.out; rw [List.length_append]; omega
                      · have h9 := HO7.out
                        rw [HF3.out, List.append_assoc, List.cons_append] at h9
                        exact h9
                      · show _ = _
                        rw [HP7.out _ (by rw [HF3.out]; omega)]
                        exact HPN.out
                      · exact fun i hi => (HP7.out i (by rw [HF3.out]; omega)).trans (HPV.out i hi)
                      · exact OwnF.grown (show OwnF (wy.setCell ⟨wx.heap.size, o, none⟩ (.int .i64 M)).drew _ _ _ _ from HNS.out) HG7.out HNBO.out
                      · exact grown_far (grown_after HGS.out (Below.refl wx.heap.size _).drew (Nat.le_refl _)) HG7.out HAX.out
                      · exact fun k hk => (HA7.out k hk).elim (fun h => HAX.out k h) (fun h => Or.inr (Nat.le_trans hws h))
                    case measure => simp [intOf]; omega
                  · have HKN : Hid (kidsF (growG (chT c ord) c) p.outs s F.length (o + 1) = (K, L ++ [(-1 : Int)])) := by
                      show _ = _
                      rw [kidsF_no hx, HKL.out]
                    have hl0 : (bitsI (partS p.outs s o)).length = 0 := by
                      rcases Nat.eq_zero_or_pos (bitsI (partS p.outs s o)).length with e | e
                      · exact e
                      · exact absurd (hpos.1 e) hx
                    rw [hl0] at r0
                    have HR : Hid (L ++ List.replicate (4 - o) (-1) = (L ++ [(-1 : Int)]) ++ List.replicate (4 - (o + 1)) (-1)) := rep_same ho
                    have ho4i : (o : Int) < 4 := by omega
                    have HMM := Lib.hid hM
                    clear hpos p0 p1 hIr hnbo hlx hl0 t0 k0 kf hM hFl2 hnl hL
                    go_wp2_with fail
                    go_roundw
                    case rel => exact ⟨o + 1, M, cap, some ⟨g, 0, none⟩, K, L ++ [(-1 : Int)], pvx, by omega, by go_num, rfl, HMM.out, HKN.out, by rw [← HR.out]; exact HOX.out, HPN.out, HPV.out, by rw [← HR.out]; exact HNX.out, HGY.out, HAX.out⟩
                    case measure => simp [intOf]; omega
                · obtain rfl : o = 4 := by omega
                  go_wp2_with fail
                  go_ret
                  refine ⟨_, pvx, rfl, ?_, HPV.out, grown_far (grown_of_below HBP.out) HGY.out (fun k hk => Or.inl hk), fun k hk => (HAX.out k hk).imp id (fun h => by omega)⟩
                  have h9 := HOX.out.reU (U' := U) (fun i _ b _ hu => hu.1)
                  rw [HGF.out, HKL.out]
                  rw [show L ++ List.replicate (4 - 4) (-1) = L from List.append_nil L] at h9
                  exact h9

theorem grown_any (B0 base : Nat) (A1 : Option Addr) (c1 : Nat) (A2 : Option Addr) (c2 : Nat) (c : MCase) (hc : caseB c = true) (Ao : Option Addr) (co : Nat) (ord : List Int) (hm : ord.length = 0 ∨ 0 < c.tests.length) (hol : ord.length ≤ 1000) : ∀ (s : Nat), s < 2 ^ c.weights.length →
    ∀ (w : World) (As : Option Addr) (cs : Nat) (U : Nat → Nat → Prop) (pv : PV) (v : Value) (F : List MFork), GrownPre w B0 base A1 A2 c Ao ord U pv v F As s → (bitsI s).length ≤ cs → F.length + (growG (chT c ord) c s F.length).length ≤ 1000000 →
      Calls Tryd.prog 39 #[.agg #[.slice A1 c.weights.length c1, .slice A2 c.tests.length c2], .slice As (bitsI s).length cs, .slice Ao ord.length co, v] w (GrownPost w base c (chT c ord) U pv v F s) := by
  intro s
  induction s using Nat.strongRecOn with
  | ind s ih => exact fun hs w As cs U pv v F hp hcs hl => grown_step B0 base A1 c1 A2 c2 c hc Ao co ord hm hol s hs (fun t ht => ih t ht (by omega)) w As cs U pv v F hp hcs hl
end Go.Proofs.YtonpemikodajdaaDoor
