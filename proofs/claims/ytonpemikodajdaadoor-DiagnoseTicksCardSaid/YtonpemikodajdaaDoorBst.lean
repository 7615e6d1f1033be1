/- Walks: the best choice for a set. -/
import Derived.Test.YtonpemikodajdaaDoorGd
import Derived.Test.YtonpemikodajdaaDoorCs
import Derived.Maps.OwnOps
import Derived.Test.YtonpemikodajdaaDoorBa
namespace Go.Proofs.YtonpemikodajdaaDoor
open Go.RowKit

def BestPost (w : World) (mb : Nat) (c : MCase) (s : Nat) (e : Ending) (w' : World) : Prop :=
  e = .returned (.agg #[.int .i64 (bestS c s).1, .int .i64 (bestS c s).2]) ∧ KnM w' mb c ∧ w.grownBy w' (some mb)
theorem fd0 (a b : Value) (w : World) : (Instr.field 100 (.agg #[a, b]) 0).run Tryd.prog w = .ok a w := by kernel_rfl
theorem fd1 (a b : Value) (w : World) : (Instr.field 100 (.agg #[a, b]) 1).run Tryd.prog w = .ok b w := by kernel_rfl
def chF (p : Int × Int) (j : Nat) : Value := if j = 0 then .int .i64 p.1 else .int .i64 p.2
/-- the world while best goes through the tests -/
structure BI (w0 : World) (B0 gp mb : Nat) (A1 : Option Addr) (c1 : Nat) (A2 : Option Addr) (c2 : Nat) (c : MCase) (rp pb : Nat) (p : Int × Int) (w : World) : Prop where
  ge : GE w B0 gp A1 c1 A2 c2 c
  g2 : w.cell? ⟨gp, 2, none⟩ = some (.map (some mb))
  kn : KnM w mb c
  gr : w0.grownBy w (some mb)
  hp : OwnF w pb 100 2 (chF p)
  hr : OwnF w rp 100 2 (chF (0, 0))
  m0 : mb < w0.heap.size
  g0 : gp < w0.heap.size
  r0 : w0.heap.size ≤ rp
  p0 : w0.heap.size ≤ pb
  rb : rp ≠ pb
section
variable {w0 w w' : World} {B0 gp mb : Nat} {A1 : Option Addr} {c1 : Nat} {A2 : Option Addr} {c2 : Nat} {c : MCase} {rp pb : Nat} {p : Int × Int}
theorem grown_after {w0 w w' : World} {row : Option Nat} {B : Nat} (h : w0.grownBy w row) (hb : Below B w w') (hB : w0.heap.size ≤ B) : w0.grownBy w' row :=
  ⟨hb.os.trans h.os, hb.tape.trans h.tape, hb.output.trans h.output, Nat.le_trans h.size hb.size, fun k hk hne => (hb.block k (by omega)).trans (h.block k hk hne)⟩
theorem BI.below (h : BI w0 B0 gp mb A1 c1 A2 c2 c rp pb p w) {B : Nat} (hb : Below B w w') (hB : w.heap.size ≤ B) : BI w0 B0 gp mb A1 c1 A2 c2 c rp pb p w' := by
  have h1 := h.ge.lt
  have h2 := h.hp.lt
  have h3 := h.hr.lt
  have h4 := h.kn.lt
  exact ⟨h.ge.keep hb (by omega), (bcell hb _ _ (by omega)).trans h.g2, h.kn.below hb (by omega), grown_after h.gr hb (Nat.le_trans h.gr.size hB), h.hp.below hb (by omega), h.hr.below hb (by omega), h.m0, h.g0, h.r0, h.p0, h.rb⟩
theorem BI.grown (h : BI w0 B0 gp mb A1 c1 A2 c2 c rp pb p w) (hg : w.grownBy w' (some mb)) (hk : KnM w' mb c) (hm : B0 ≤ mb) (hne : gp ≠ mb) : BI w0 B0 gp mb A1 c1 A2 c2 c rp pb p w' := by
  have h1 := h.m0
  have h2 := h.p0
  have h3 := h.r0
  exact ⟨h.ge.grown hg hm hne, hg.cell h.g2 (fun e => hne (by injection e)), hk, h.gr.trans hg, h.hp.grown hg (fun e => by injection e with e; omega), h.hr.grown hg (fun e => by injection e with e; omega), h.m0, h.g0, h.r0, h.p0, h.rb⟩
theorem BI.setP (h : BI w0 B0 gp mb A1 c1 A2 c2 c rp pb p w) (a b : Int) : BI w0 B0 gp mb A1 c1 A2 c2 c rp pb (a, b) ((w.setCell ⟨pb, 0, none⟩ (.int .i64 a)).setCell ⟨pb, 1, none⟩ (.int .i64 b)) := by
  have h1 := h.m0
  have h2 := h.p0
  have h3 := h.g0
  have hb : Below w0.heap.size w ((w.setCell ⟨pb, 0, none⟩ (.int .i64 a)).setCell ⟨pb, 1, none⟩ (.int .i64 b)) := ((Below.refl _ _).setCell (p := ⟨pb, 0, none⟩) h.p0 _).setCell (p := ⟨pb, 1, none⟩) h.p0 _
  refine ⟨h.ge.keep hb h.g0, (bcell hb _ _ h.g0).trans h.g2, h.kn.below hb h.m0, grown_after h.gr hb (Nat.le_refl _), ((h.hp.set 0 (.int .i64 a)).set 1 (.int .i64 b)).congr fun j hj => ?_, (h.hr.far (p := ⟨pb, 0, none⟩) h.rb _).far (p := ⟨pb, 1, none⟩) h.rb _, h.m0, h.g0, h.r0, h.p0, h.rb⟩
  unfold chF
  rcases (show j = 0 ∨ j = 1 by omega) with rfl | rfl
  · simp
  · simp
end
set_option maxRecDepth 100000 in
set_option maxHeartbeats 2000000 in
theorem best_step (B0 gp mb : Nat) (A1 : Option Addr) (c1 : Nat) (A2 : Option Addr) (c2 : Nat) (c : MCase) (hc : caseB c = true) (hm : B0 ≤ mb) (hne : gp ≠ mb) (s : Nat) (hs : s < 2 ^ c.weights.length)
    (ih : ∀ t, t < s → ∀ w : World, GE w B0 gp A1 c1 A2 c2 c → w.cell? ⟨gp, 2, none⟩ = some (.map (some mb)) → KnM w mb c → Calls Tryd.prog 59 #[.pointer (some ⟨gp, 0, none⟩), .int .u64 t] w (BestPost w mb c t))
    (w : World) (h : GE w B0 gp A1 c1 A2 c2 c) (g2 : w.cell? ⟨gp, 2, none⟩ = some (.map (some mb))) (hk : KnM w mb c) : Calls Tryd.prog 59 #[.pointer (some ⟨gp, 0, none⟩), .int .u64 s] w (BestPost w mb c s) := by
  have hok := caseOk hc
  have hs12 := two12 hs hok.n2
  have hgl := h.lt
  have hml := hk.lt
  have HIH := Lib.hid ih
  have HOK := Lib.hid hok
  have HGE := Lib.hid h
  have HKN := Lib.hid hk
  have HSS := Lib.hid hs
  have HC := Lib.hid hc
  have a2 := (acell w (.cells #[.int .i64 0, .int .i64 0] 100) gp 2 hgl).trans g2
  have hb3 : ∀ t n : Int, Below w.heap.size w (((w.alloc (.cells #[.int .i64 0, .int .i64 0] 100)).alloc (.cells #[.int .i64 t, .int .i64 n] 100)).alloc (.cells #[.int .i64 (-1), .int .i64 0] 100)) := fun t n => (((Below.refl _ _).alloc (Nat.le_refl _) _).alloc (by simp) _).alloc (by simp; omega) _
  have a1 := fun t n : Int => (bcell (hb3 t n) gp 1 hgl).trans h.g1
  have HB3 := Lib.hid hb3
  clear ih hok h hk hs hc hb3
  go_enter Tryd.func59, Tryd.ntmps59
  go_wp2_with (at_lookup; refine look_known _ rfl _ _ rfl mb c rfl (HKN.out.alloc _) s hs12 rfl ?_; intro t n is hch; have HCH := Lib.hid hch; clear hch)
  · obtain ⟨rfl, rfl⟩ := HCH.out ‹_›
    refine bodyPost_ret (v := .agg #[.int .i64 (bestS c s).1, .int .i64 (bestS c s).2]) (by simp [results, Tryd.results59, go_sem]) rfl ⟨rfl, (HKN.out.alloc _).alloc _, ?_⟩
    exact (World.grownBy_alloc w _ _).trans (World.grownBy_alloc _ _ _)
  · have his : is = false := by first | assumption | simpa using ‹¬ is = true›
    subst his
    have hb3 := HB3.out t n
    have hsz3 : (((w.alloc (.cells #[.int .i64 0, .int .i64 0] 100)).alloc (.cells #[.int .i64 t, .int .i64 n] 100)).alloc (.cells #[.int .i64 (-1), .int .i64 0] 100)).heap.size = w.heap.size + 3 := by simp
    have hpb : OwnF (((w.alloc (.cells #[.int .i64 0, .int .i64 0] 100)).alloc (.cells #[.int .i64 t, .int .i64 n] 100)).alloc (.cells #[.int .i64 (-1), .int .i64 0] 100)) (w.heap.size + 2) 100 2 (chF (-1, 0)) := by
      have := own_new ((w.alloc (.cells #[.int .i64 0, .int .i64 0] 100)).alloc (.cells #[.int .i64 t, .int .i64 n] 100)) #[.int .i64 (-1), .int .i64 0] 100 (n := 2) (f := chF (-1, 0)) (by simp) (fun j hj => by
        rcases (show j = 0 ∨ j = 1 by omega) with rfl | rfl <;> rfl)
      simpa using this
    have hrp : OwnF (((w.alloc (.cells #[.int .i64 0, .int .i64 0] 100)).alloc (.cells #[.int .i64 t, .int .i64 n] 100)).alloc (.cells #[.int .i64 (-1), .int .i64 0] 100)) w.heap.size 100 2 (chF (0, 0)) :=
      ((own_new w #[.int .i64 0, .int .i64 0] 100 (n := 2) (f := chF (0, 0)) (by simp) (fun j hj => by
        rcases (show j = 0 ∨ j = 1 by omega) with rfl | rfl <;> rfl)).alloc _).alloc _
    have hBI : BI w B0 gp mb A1 c1 A2 c2 c w.heap.size (w.heap.size + 2) (pickS (bestS c) c s 0) (((w.alloc (.cells #[.int .i64 0, .int .i64 0] 100)).alloc (.cells #[.int .i64 t, .int .i64 n] 100)).alloc (.cells #[.int .i64 (-1), .int .i64 0] 100)) :=
      ⟨HGE.out.keep hb3 hgl, (bcell hb3 _ _ hgl).trans g2, HKN.out.below hb3 hml, grown_after (World.grownBy.refl _ _) hb3 (Nat.le_refl _), hpb, hrp, hml, hgl, Nat.le_refl _, by omega, by omega⟩
    generalize (((w.alloc (.cells #[.int .i64 0, .int .i64 0] 100)).alloc (.cells #[.int .i64 t, .int .i64 n] 100)).alloc (.cells #[.int .i64 (-1), .int .i64 0] 100)) = W3 at *
    clear HCH HB3 a1 a2 hb3 hpb hrp HKN
    have hlt12 := HOK.out.t
    go_loopw [33] (fun vi wr => ∃ k : Nat, k ≤ c.tests.length ∧ vi = .int .i64 k ∧ BI w B0 gp mb A1 c1 A2 c2 c w.heap.size (w.heap.size + 2) (pickS (bestS c) c s k) wr) (fun vi _ => c.tests.length - (intOf vi).toNat)
    case atStart => exact ⟨0, Nat.zero_le _, rfl, hBI⟩
    case round =>
      clear hBI
      obtain ⟨k, hk, rfl, hB⟩ := hrel
      have hpk := pickS_cap HOK.out HSS.out hk
      by_cases hlt : k < c.tests.length
      · obtain ⟨pt, b, off, Ap, cp, ht, rfl, hblt, t0, t1, hcp, htp⟩ := hB.ge.ca.ts.at_ hlt
        have hprobe := HOK.out.p k pt ht
        have hgd : c.tests.getD k ⟨0, []⟩ = pt := by rw [List.getD_eq_getElem?_getD, ht]; rfl
        have HGD := Lib.hid hgd
        have hB0g := hB.ge.le
        have hgw := hB.ge.lt
        have hb1 : Below wr.heap.size wr (wr.alloc (.cells #[.int .i64 pt.cost, .slice Ap pt.outs.length cp] 50)) := (Below.refl _ _).alloc (Nat.le_refl _) _
        have hB1 := hB.below hb1 (Nat.le_refl _)
        have htp1 : IntsA (wr.alloc (.cells #[.int .i64 pt.cost, .slice Ap pt.outs.length cp] 50)) (wr.alloc (.cells #[.int .i64 pt.cost, .slice Ap pt.outs.length cp] 50)).heap.size Ap pt.outs := htp.alloc (by omega) _ (by simp; omega)
        obtain ⟨x0, h0⟩ : ∃ x, partS pt.outs s 0 = x := ⟨_, rfl⟩
        obtain ⟨x1, h1⟩ : ∃ x, partS pt.outs s 1 = x := ⟨_, rfl⟩
        obtain ⟨x2, h2⟩ : ∃ x, partS pt.outs s 2 = x := ⟨_, rfl⟩
        obtain ⟨x3, h3⟩ : ∃ x, partS pt.outs s 3 = x := ⟨_, rfl⟩
        obtain ⟨R, hR⟩ : ∃ x, partsTo pt.outs s 4 = x := ⟨_, rfl⟩
        have HSP : Hid (Calls Tryd.prog 94 #[.agg #[.int .i64 pt.cost, .slice Ap pt.outs.length cp], .int .u64 s] (wr.alloc (.cells #[.int .i64 pt.cost, .slice Ap pt.outs.length cp] 50)) fun e w' => e = .returned (.tuple #[.agg #[.int .u64 x0, .int .u64 x1, .int .u64 x2, .int .u64 x3], .int .i64 R]) ∧ Below (wr.alloc (.cells #[.int .i64 pt.cost, .slice Ap pt.outs.length cp] 50)).heap.size (wr.alloc (.cells #[.int .i64 pt.cost, .slice Ap pt.outs.length cp] 50)) w') :=
          split_any pt Ap cp s c.weights.length _ hB1.ge.tab htp1 hprobe.2.1 HOK.out.n2 hprobe.2.2 HSS.out h0 h1 h2 h3 hR
        have HX0 := Lib.hid h0
        have HX1 := Lib.hid h1
        have HX2 := Lib.hid h2
        have HX3 := Lib.hid h3
        have HR := Lib.hid hR
        have hcost := hprobe.1
        clear ht htp htp1 hprobe hgd h0 h1 h2 h3 hR
        by_cases hR2 : R < 2
        · have hps : pickS (bestS c) c s (k + 1) = pickS (bestS c) c s k := by rw [pickS, if_pos (by rw [HGD.out, HR.out]; exact hR2)]
          have HPS := Lib.hid hps
          clear hps
          go_wp2_with (go_at_call 94; refine HSP.out.mono ?_; rintro e w2 ⟨rfl, hb2⟩)
          go_roundw
          case rel => exact ⟨k + 1, by omega, by go_num, by rw [HPS.out]; exact (hB1.below hb2 (Nat.le_refl _)).below ((Below.refl _ _).alloc (Nat.le_refl _) _) (Nat.le_refl _)⟩
          case measure => simp [intOf]; omega
        · have hps : pickS (bestS c) c s (k + 1) = if (pickS (bestS c) c s k).1 < 0 ∨ costS (bestS c) pt.outs s (pt.cost * weightS c s) 4 < (pickS (bestS c) c s k).2 then ((k : Int), costS (bestS c) pt.outs s (pt.cost * weightS c s) 4) else pickS (bestS c) c s k := by
            rw [pickS, HGD.out, HR.out, if_neg hR2]
          have HPS := Lib.hid hps
          have hmw := mulWeight HOK.out hcost HSS.out
          have HTW := Lib.hid (fun o => partsTo_two (outs := pt.outs) (s := s) (o := o) (k := 4) (by rw [HR.out]; omega))
          clear hps
          go_wp2_with (go_at_call 94; refine HSP.out.mono ?_; rintro e w2 ⟨rfl, hb2⟩)
          have hB2 := hB1.below hb2 (Nat.le_refl _)
          have hb3 : Below w2.heap.size w2 (w2.alloc (.cells #[.int .u64 x0, .int .u64 x1, .int .u64 x2, .int .u64 x3] 143)) := (Below.refl _ _).alloc (Nat.le_refl _) _
          have hB4 := hB2.below hb3 (Nat.le_refl _)
          have n0 := newcell wr #[.int .i64 pt.cost, .slice Ap pt.outs.length cp] 50 0
          simp only [List.getElem?_toArray, List.getElem?_cons_zero] at n0
          have hs1 : (wr.alloc (.cells #[.int .i64 pt.cost, .slice Ap pt.outs.length cp] 50)).heap.size = wr.heap.size + 1 := by simp
          have hs2 := hb2.size
          rw [hs1] at hs2
          have n0 := (bcell hb3 wr.heap.size 0 (by omega)).trans ((bcell hb2 wr.heap.size 0 (by omega)).trans n0)
          have m0 := newcell w2 #[.int .u64 x0, .int .u64 x1, .int .u64 x2, .int .u64 x3] 143 0
          have m1 := newcell w2 #[.int .u64 x0, .int .u64 x1, .int .u64 x2, .int .u64 x3] 143 1
          have m2 := newcell w2 #[.int .u64 x0, .int .u64 x1, .int .u64 x2, .int .u64 x3] 143 2
          have m3 := newcell w2 #[.int .u64 x0, .int .u64 x1, .int .u64 x2, .int .u64 x3] 143 3
          simp only [List.getElem?_toArray, List.getElem?_cons_succ, List.getElem?_cons_zero] at m0 m1 m2 m3
          have hs4 : w2.heap.size < (w2.alloc (.cells #[.int .u64 x0, .int .u64 x1, .int .u64 x2, .int .u64 x3] 143)).heap.size := by simp
          generalize w2.alloc (.cells #[.int .u64 x0, .int .u64 x1, .int .u64 x2, .int .u64 x3] 143) = W4 at *
          generalize w2.heap.size = ab at *
          generalize wr.heap.size = tp at *
          clear hB hB1 hB2 hb1 hb2 hb3 hs1 HSP t0 t1
          have HB4 := Lib.hid hB4
          have q0 := BW.cell (B := W4.heap.size) (show tp < W4.heap.size by omega) n0
          have HW : Hid (∀ s' : BW W4.heap.size W4, Calls Tryd.prog 95 #[.pointer (some ⟨gp, 0, none⟩), .int .u64 s] s'.1 fun e w' => e = .returned (.int .i64 (weightS c s)) ∧ Below s'.1.heap.size s'.1 w') := fun s' => weight_any B0 gp _ c1 _ c2 c s s'.1 (HB4.out.below s'.2 (Nat.le_refl _)).ge HC.out HSS.out
          clear n0 hB4
          generalize hWV : weightS c s = wv at *
          have hm0 := hmw.1
          have hm1 := hmw.2.1
          have e1 : IntKind.i64.wrap (pt.cost * wv) = pt.cost * wv := IntWalk.i64_in _ (by omega)
          refine wp_region_below W4.heap.size W4 (Below.refl _ _) (by kernel_rfl) (by kernel_rfl) ?_
          repeat (go_big_quiet_step ((go_at_call 95; exact quiet_below (Nat.le_refl _) (HW.out _))))
          refine wpQuiet_nil ?_
          clear e1 q0
          intro s'
          have hB5 := HB4.out.below s'.2 (Nat.le_refl _)
          have q0 := (bcell s'.2 ab 0 hs4).trans m0
          have q1 := (bcell s'.2 ab 1 hs4).trans m1
          have q2 := (bcell s'.2 ab 2 hs4).trans m2
          have q3 := (bcell s'.2 ab 3 hs4).trans m3
          generalize s'.1 = W5 at *
          clear m0 m1 m2 m3 HW HB4
          go_wp2_with fail
          go_loopw [12, 53] (fun vc vi wx => ∃ o : Nat, o ≤ 4 ∧ vi = .int .i64 o ∧ ∃ C : Int, vc = .int .i64 C ∧ Hid (costS (bestS c) pt.outs s (pt.cost * wv) o = C) ∧ BI w B0 gp mb A1 c1 (some ⟨b, off, none⟩) c2 c w.heap.size (w.heap.size + 2) (pickS (bestS c) c s k) wx) (fun _ vi _ => 4 - (intOf vi).toNat)
          case atStart => exact ⟨0, Nat.zero_le _, rfl, _, rfl, rfl, hB5⟩
          case round =>
            clear hB5 q0 q1 q2 q3
            obtain ⟨o, ho4, rfl, C, rfl, HCC, hBx⟩ := hrel
            rename World => wx
            have hcb := costS_bd (B := bestS c) (outs := pt.outs) (s := s) (c0 := pt.cost * wv) (M := 2929687500000000) (k := o) hm0 (by omega) fun o' _ _ => by
              have := bestS_cap HOK.out (s := partS pt.outs s o') (by have := HSS.out; have := partS_le (outs := pt.outs) (o := o') hs12; omega)
              exact ⟨this.2.2.1, this.2.2.2⟩
            rw [HCC.out] at hcb
            have i0 := ix0 (.int .u64 x0) (.int .u64 x1) (.int .u64 x2) (.int .u64 x3)
            have i1 := ix1 (.int .u64 x0) (.int .u64 x1) (.int .u64 x2) (.int .u64 x3)
            have i2 := ix2 (.int .u64 x0) (.int .u64 x1) (.int .u64 x2) (.int .u64 x3)
            have i3 := ix3 (.int .u64 x0) (.int .u64 x1) (.int .u64 x2) (.int .u64 x3)
            rcases (show o = 0 ∨ o = 1 ∨ o = 2 ∨ o = 3 ∨ o = 4 by omega) with rfl | rfl | rfl | rfl | rfl
            · by_cases h0 : 0 < x0
              · obtain ⟨p', _, hp', h2'⟩ := HTW.out 0
                have hxs : x0 < s := by rw [← HX0.out]; exact partS_ne hs12 (fun e => hp' e.symm) h2'
                have hbb := bestS_cap HOK.out (s := x0) (by have := HSS.out; omega)
                have HIX := Lib.hid (HIH.out x0 hxs wx hBx.ge hBx.g2 hBx.kn)
                have HCN : Hid (costS (bestS c) pt.outs s (pt.cost * wv) (0 + 1) = C + (bestS c x0).2) := by show _ = _; rw [costS, HX0.out, if_pos h0, HCC.out]
                unfold BestPost at HIX
                generalize (bestS c x0).2 = v at *
                generalize (bestS c x0).1 = v1 at *
                have j1 := fd1 (.int .i64 v1) (.int .i64 v)
                go_wp2_with (go_at_call 59; refine HIX.out.mono ?_; rintro e w' ⟨rfl, hk', hg'⟩)
                go_roundw
                case rel => exact ⟨0 + 1, by omega, rfl, C + v, rfl, HCN.out, hBx.grown hg' hk' hm hne⟩
                case measure => simp [intOf]
              · have hd0 : decide (0 < x0) = false := decide_eq_false h0
                have HCN : Hid (costS (bestS c) pt.outs s (pt.cost * wv) (0 + 1) = C) := by show _ = _; rw [costS, HX0.out, if_neg h0, HCC.out]
                go_wp2_with fail
                go_roundw
                case rel => exact ⟨0 + 1, by omega, rfl, C, rfl, HCN.out, hBx⟩
                case measure => simp [intOf]
            · by_cases h0 : 0 < x1
              · obtain ⟨p', _, hp', h2'⟩ := HTW.out 1
                have hxs : x1 < s := by rw [← HX1.out]; exact partS_ne hs12 (fun e => hp' e.symm) h2'
                have hbb := bestS_cap HOK.out (s := x1) (by have := HSS.out; omega)
                have HIX := Lib.hid (HIH.out x1 hxs wx hBx.ge hBx.g2 hBx.kn)
                have HCN : Hid (costS (bestS c) pt.outs s (pt.cost * wv) (1 + 1) = C + (bestS c x1).2) := by show _ = _; rw [costS, HX1.out, if_pos h0, HCC.out]
                unfold BestPost at HIX
                generalize (bestS c x1).2 = v at *
                generalize (bestS c x1).1 = v1 at *
                have j1 := fd1 (.int .i64 v1) (.int .i64 v)
                go_wp2_with (go_at_call 59; refine HIX.out.mono ?_; rintro e w' ⟨rfl, hk', hg'⟩)
                go_roundw
                case rel => exact ⟨1 + 1, by omega, rfl, C + v, rfl, HCN.out, hBx.grown hg' hk' hm hne⟩
                case measure => simp [intOf]
              · have hd0 : decide (0 < x1) = false := decide_eq_false h0
                have HCN : Hid (costS (bestS c) pt.outs s (pt.cost * wv) (1 + 1) = C) := by show _ = _; rw [costS, HX1.out, if_neg h0, HCC.out]
                go_wp2_with fail
                go_roundw
                case rel => exact ⟨1 + 1, by omega, rfl, C, rfl, HCN.out, hBx⟩
                case measure => simp [intOf]
            · by_cases h0 : 0 < x2
              · obtain ⟨p', _, hp', h2'⟩ := HTW.out 2
                have hxs : x2 < s := by rw [← HX2.out]; exact partS_ne hs12 (fun e => hp' e.symm) h2'
                have hbb := bestS_cap HOK.out (s := x2) (by have := HSS.out; omega)
                have HIX := Lib.hid (HIH.out x2 hxs wx hBx.ge hBx.g2 hBx.kn)
                have HCN : Hid (costS (bestS c) pt.outs s (pt.cost * wv) (2 + 1) = C + (bestS c x2).2) := by show _ = _; rw [costS, HX2.out, if_pos h0, HCC.out]
                unfold BestPost at HIX
                generalize (bestS c x2).2 = v at *
                generalize (bestS c x2).1 = v1 at *
                have j1 := fd1 (.int .i64 v1) (.int .i64 v)
                go_wp2_with (go_at_call 59; refine HIX.out.mono ?_; rintro e w' ⟨rfl, hk', hg'⟩)
                go_roundw
                case rel => exact ⟨2 + 1, by omega, rfl, C + v, rfl, HCN.out, hBx.grown hg' hk' hm hne⟩
                case measure => simp [intOf]
              · have hd0 : decide (0 < x2) = false := decide_eq_false h0
                have HCN : Hid (costS (bestS c) pt.outs s (pt.cost * wv) (2 + 1) = C) := by show _ = _; rw [costS, HX2.out, if_neg h0, HCC.out]
                go_wp2_with fail
                go_roundw
                case rel => exact ⟨2 + 1, by omega, rfl, C, rfl, HCN.out, hBx⟩
                case measure => simp [intOf]
            · by_cases h0 : 0 < x3
              · obtain ⟨p', _, hp', h2'⟩ := HTW.out 3
                have hxs : x3 < s := by rw [← HX3.out]; exact partS_ne hs12 (fun e => hp' e.symm) h2'
                have hbb := bestS_cap HOK.out (s := x3) (by have := HSS.out; omega)
                have HIX := Lib.hid (HIH.out x3 hxs wx hBx.ge hBx.g2 hBx.kn)
                have HCN : Hid (costS (bestS c) pt.outs s (pt.cost * wv) (3 + 1) = C + (bestS c x3).2) := by show _ = _; rw [costS, HX3.out, if_pos h0, HCC.out]
                unfold BestPost at HIX
                generalize (bestS c x3).2 = v at *
                generalize (bestS c x3).1 = v1 at *
                have j1 := fd1 (.int .i64 v1) (.int .i64 v)
                go_wp2_with (go_at_call 59; refine HIX.out.mono ?_; rintro e w' ⟨rfl, hk', hg'⟩)
                go_roundw
                case rel => exact ⟨3 + 1, by omega, rfl, C + v, rfl, HCN.out, hBx.grown hg' hk' hm hne⟩
                case measure => simp [intOf]
              · have hd0 : decide (0 < x3) = false := decide_eq_false h0
                have HCN : Hid (costS (bestS c) pt.outs s (pt.cost * wv) (3 + 1) = C) := by show _ = _; rw [costS, HX3.out, if_neg h0, HCC.out]
                go_wp2_with fail
                go_roundw
                case rel => exact ⟨3 + 1, by omega, rfl, C, rfl, HCN.out, hBx⟩
                case measure => simp [intOf]
            · clear i0 i1 i2 i3
              rw [HCC.out] at HPS
              have HPK : Hid (pickS (bestS c) c s (k + 1) = if (pickS (bestS c) c s k).1 < 0 ∨ C < (pickS (bestS c) c s k).2 then ((k : Int), C) else pickS (bestS c) c s k) := HPS.out
              have p0 := hBx.hp.cell (j := 0) (by omega)
              have p1 := hBx.hp.cell (j := 1) (by omega)
              have f0 := hBx.hp.frozen 0
              have f1 := hBx.hp.frozen 1
              unfold chF at p0 p1
              simp only [if_true, if_neg (show ¬ (1 = 0) by omega)] at p0 p1
              have hBS := hBx.setP (k : Int) C
              clear HPS HCC
              generalize pickS (bestS c) c s k = pk at *
              by_cases z1 : pk.1 < 0
              · go_wp2_with fail
                go_roundw
                case rel => exact ⟨k + 1, by omega, by go_num, by rw [HPK.out, if_pos (Or.inl z1)]; exact hBS⟩
                case measure => simp [intOf]; omega
              · by_cases z2 : C < pk.2
                · go_wp2_with fail
                  go_roundw
                  case rel => exact ⟨k + 1, by omega, by go_num, by rw [HPK.out, if_pos (Or.inr z2)]; exact hBS⟩
                  case measure => simp [intOf]; omega
                · go_wp2_with fail
                  go_roundw
                  case rel => exact ⟨k + 1, by omega, by go_num, by rw [HPK.out, if_neg (by omega)]; exact hBx⟩
                  case measure => simp [intOf]; omega
      · obtain rfl : k = c.tests.length := by omega
        rw [← bestS_eq c hs12] at hB
        have hB1 := hB.below ((Below.refl wr.heap.size wr).drew) (Nat.le_refl _)
        have p0 := hB.hp.cell (j := 0) (by omega)
        have p1 := hB.hp.cell (j := 1) (by omega)
        have g2' := hB.g2
        unfold chF at p0 p1
        simp only [if_true, if_neg (show ¬ (1 = 0) by omega)] at p0 p1
        obtain ⟨b1, hb1⟩ : ∃ x, (bestS c s).1 = x := ⟨_, rfl⟩
        obtain ⟨b2, hb2⟩ : ∃ x, (bestS c s).2 = x := ⟨_, rfl⟩
        have HB1 := Lib.hid hb1
        have HB2 := Lib.hid hb2
        rw [hb1] at p0
        rw [hb2] at p1
        clear hb1 hb2 hpk HIH HGE
        go_wp2_with fail
        refine wp_region_quiet_tail 6 (by kernel_rfl) (by kernel_rfl) ?_
        simp only [List.take_succ_cons, List.take_zero, List.drop_succ_cons, List.drop_zero]
        repeat (go_big_quiet_step (fail))
        refine wpQuiet_nil ?_
        go_wp2_with (at_mapUpdate; refine put_known _ rfl _ _ _ rfl mb c rfl hB1.kn s hs12 rfl rfl HB1.out.symm HB2.out.symm ?_; intro w6 hk6 hg6; have hB6 := hB1.grown hg6 hk6 hm hne; have p6 := hB6.hp.cell (j := 0) (by omega); have p7 := hB6.hp.cell (j := 1) (by omega); unfold chF at p6 p7; simp only [if_true, if_neg (show ¬ (1 = 0) by omega), HB1.out, HB2.out] at p6 p7; have r6 := hB6.hr.cell (j := 0) (by omega); have r7 := hB6.hr.cell (j := 1) (by omega); have f6 := hB6.hr.frozen 0; have f7 := hB6.hr.frozen 1)
        have hb9 : Below w.heap.size w6 ((w6.setCell ⟨w.heap.size, 0, none⟩ (.int .i64 b1)).setCell ⟨w.heap.size, 1, none⟩ (.int .i64 b2)) := ((Below.refl _ _).setCell (p := ⟨w.heap.size, 0, none⟩) (Nat.le_refl _) _).setCell (p := ⟨w.heap.size, 1, none⟩) (Nat.le_refl _) _
        have hO9 := (hB6.hr.set 0 (.int .i64 b1)).set 1 (.int .i64 b2)
        have e0 := hO9.cell (j := 0) (by omega)
        have e1 := hO9.cell (j := 1) (by omega)
        simp only [if_true, if_neg (show ¬ (0 = 1) by omega)] at e0 e1
        have hk9 := hk6.below hb9 hml
        have hg9 := grown_after hB6.gr hb9 (Nat.le_refl _)
        clear hO9 hb9 p6 p7 r6 r7 f6 f7 hg6 hB6 hk6
        generalize (w6.setCell ⟨w.heap.size, 0, none⟩ (.int .i64 b1)).setCell ⟨w.heap.size, 1, none⟩ (.int .i64 b2) = W9 at *
        exact bodyPost_ret (v := .agg #[.int .i64 b1, .int .i64 b2]) (by simp [results, Tryd.results59, go_sem, e0, e1]) rfl ⟨by rw [HB1.out, HB2.out], hk9, hg9⟩
theorem best_any (B0 gp mb : Nat) (A1 : Option Addr) (c1 : Nat) (A2 : Option Addr) (c2 : Nat) (c : MCase) (hc : caseB c = true) (hm : B0 ≤ mb) (hne : gp ≠ mb) : ∀ (s : Nat), s < 2 ^ c.weights.length → ∀ w : World, GE w B0 gp A1 c1 A2 c2 c → w.cell? ⟨gp, 2, none⟩ = some (.map (some mb)) → KnM w mb c →
    Calls Tryd.prog 59 #[.pointer (some ⟨gp, 0, none⟩), .int .u64 s] w (BestPost w mb c s) := by
  intro s
  induction s using Nat.strongRecOn with
  | ind s ih => exact fun hs w h g2 hk => best_step B0 gp mb A1 c1 A2 c2 c hc hm hne s hs (fun t ht w => ih t ht (by omega) w) w h g2 hk
end Go.Proofs.YtonpemikodajdaaDoor
