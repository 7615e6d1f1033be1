/- Walk: the reference's grow. -/
import Derived.Test.YtonpemikodajdaaDoorLe
namespace Go.Proofs.YtonpemikodajdaaDoor
open Go.RowKit

theorem KnI.look {w : World} {mb : Nat} {f : Nat → Int} {p : Nat → Prop} (h : KnI w mb f p) {k : Nat} (hk : k < 4096) (hp : p k) : (Instr.lookup 103 (.map (some mb)) (.int .i64 (k : Int)) false).run Tryd.prog w = .ok (.int .i64 (f k)) w := by
  obtain ⟨D, h1, h2, h3⟩ := h
  obtain ⟨v, ps, hrun, hv⟩ := h1.lookup keyed3 u103 (z3 w) (encI_mk 0) (keyOf3 hk)
  rw [(h3 k hk).2 ((h3 k hk).1.2 hp)] at hv
  rw [hrun, encI_inv hv]
/-- the new world differs in two maps, in one row, and in what is new -/
structure Gn (w w' : World) (m1 m2 : Nat) (r : Option Nat) : Prop where
  os : w'.os = w.os
  tape : w'.tape = w.tape
  output : w'.output = w.output
  size : w.heap.size ≤ w'.heap.size
  block : ∀ k, k < w.heap.size → k ≠ m1 → k ≠ m2 → some k ≠ r → w'.heap[k]? = w.heap[k]?
section
variable {w w' w'' : World} {m1 m2 : Nat} {r r' : Option Nat}
theorem Gn.of_gm (h : Gm w w' m1 m2) : Gn w w' m1 m2 r := ⟨h.os, h.tape, h.output, h.size, fun k hk a b _ => h.block k hk a b⟩
theorem Gn.of_row (h : w.grownBy w' r) : Gn w w' m1 m2 r := ⟨h.os, h.tape, h.output, h.size, fun k hk _ _ c => h.block k hk c⟩
theorem Gn.of_below (h : Below w.heap.size w w') : Gn w w' m1 m2 r := .of_gm (.of_below h)
theorem Gn.far (h : Gn w w' m1 m2 r) (h' : Gn w' w'' m1 m2 r') (hr : ∀ k, r' = some k → r = some k ∨ w.heap.size ≤ k) : Gn w w'' m1 m2 r :=
  ⟨h'.os.trans h.os, h'.tape.trans h.tape, h'.output.trans h.output, Nat.le_trans h.size h'.size, fun k hk a b c => (h'.block k (Nat.lt_of_lt_of_le hk h.size) a b fun e => by
    rcases hr k e.symm with e2 | e2
    · exact c e2.symm
    · omega).trans (h.block k hk a b c)⟩
theorem Gn.set (h : Gn w w' m1 m2 r) {nb o : Nat} (hn : w.heap.size ≤ nb) (u : Value) : Gn w (w'.setCell ⟨nb, o, none⟩ u) m1 m2 r :=
  ⟨h.os, h.tape, h.output, by rw [World.size_setCell]; exact h.size, fun k hk a b c => (Below.heap_setCell w' ⟨nb, o, none⟩ u k (show k ≠ nb by omega)).trans (h.block k hk a b c)⟩
theorem Gn.drew (h : Gn w w' m1 m2 r) : Gn w w'.drew m1 m2 r := ⟨h.os, h.tape, h.output, h.size, h.block⟩
theorem Gn.cell (h : Gn w w' m1 m2 r) {b o : Nat} (hb : b < w.heap.size) (h1 : b ≠ m1) (h2 : b ≠ m2) (h3 : some b ≠ r) : w'.cell? ⟨b, o, none⟩ = w.cell? ⟨b, o, none⟩ := World.cell?_of_block (a := ⟨b, o, none⟩) (h.block b hb h1 h2 h3)
theorem OutV.gm {base : Nat} {U : Nat → Nat → Prop} {pv : PV} {v : Value} {F : List MFork} (h : OutV w base U pv v F) (hg : Gm w w' m1 m2) (hU : ∀ i b, U i b → b ≠ m1 ∧ b ≠ m2) (h1 : m1 < base) (h2 : m2 < base) : OutV w' base U pv v F :=
  ⟨own_keep h.1 fun g hgv => by
    have := h.lt g hgv
    exact hg.block g this.2 (by omega) (by omega), fun i hi => (h.2 i hi).keep hg.size (fun b hb hu => hg.block b hb (hU i b hu.1).1 (hU i b hu.1).2) (fun _ _ hu => hu)⟩
theorem WE.belowB {B0 gp : Nat} {A1 : Option Addr} {c1 : Nat} {A2 : Option Addr} {c2 : Nat} {c : MCase} {p : Nat → Prop} (h : WE w B0 gp m1 m2 A1 c1 A2 c2 c p) {B : Nat} (hb : Below B w w') (hg : gp < B) (h1 : m1 < B) (h2 : m2 < B) : WE w' B0 gp m1 m2 A1 c1 A2 c2 c p :=
  ⟨Nat.lt_of_lt_of_le h.lt hb.size, (bcell hb _ _ hg).trans h.g0, (bcell hb _ _ hg).trans h.g1, (bcell hb _ _ hg).trans h.g2, (bcell hb _ _ hg).trans h.g3, h.ca.keep (hb.mono (by have := h.le; omega)), h.k1.below hb h1, h.k2.below hb h2, h.le, h.l1, h.l2, h.n1, h.n2, h.n3⟩
end
/-- what the reference's grow wants -/
structure RPre (w : World) (B0 base gp m1 m2 : Nat) (A1 : Option Addr) (c1 : Nat) (A2 : Option Addr) (c2 : Nat) (c : MCase) (p : Nat → Prop) (U : Nat → Nat → Prop) (pv : PV) (v : Value) (F : List MFork) (As : Option Addr) (s : Nat) : Prop where
  we : WE w B0 gp m1 m2 A1 c1 A2 c2 c p
  bs : base ≤ w.heap.size
  bg : gp < base
  b1 : m1 < base
  b2 : m2 < base
  out : OutV w base U pv v F
  hU : ∀ i, F.length ≤ i → ∀ b, w.heap.size ≤ b → U i b
  hm : ∀ i b, U i b → b ≠ m1 ∧ b ≠ m2
  set : IntsU w (fun b => U F.length b ∧ some b ≠ v.ownBlock) As (bitsI s)
def RPost (w : World) (B0 base gp m1 m2 : Nat) (A1 : Option Addr) (c1 : Nat) (A2 : Option Addr) (c2 : Nat) (c : MCase) (p : Nat → Prop) (U : Nat → Nat → Prop) (pv : PV) (v : Value) (F : List MFork) (s : Nat) (e : Ending) (w' : World) : Prop :=
  ∃ v' pv' p', e = .returned v' ∧ OutV w' base U pv' v' (F ++ growS c s F.length) ∧ (∀ i, i < F.length → pv' i = pv i) ∧ WE w' B0 gp m1 m2 A1 c1 A2 c2 c p' ∧ (∀ k, p k → p' k) ∧ Gn w w' m1 m2 v.ownBlock ∧ ∀ g, v'.ownBlock = some g → v.ownBlock = some g ∨ w.heap.size ≤ g
theorem RPre.setAt {w wx : World} {B0 base gp m1 m2 : Nat} {A1 : Option Addr} {c1 : Nat} {A2 : Option Addr} {c2 : Nat} {c : MCase} {p : Nat → Prop} {U : Nat → Nat → Prop} {pv : PV} {v : Value} {F : List MFork} {As : Option Addr} {s : Nat} (h : RPre w B0 base gp m1 m2 A1 c1 A2 c2 c p U pv v F As s) (hg : Gn w wx m1 m2 v.ownBlock) : IntsU wx (fun b => (U F.length b ∧ some b ≠ v.ownBlock) ∧ b < w.heap.size) As (bitsI s) := fun hl => by
  obtain ⟨b, off, hA, hb, hu, hc⟩ := h.set hl
  have hm := h.hm _ _ hu.1
  exact ⟨b, off, hA, Nat.lt_of_lt_of_le hb hg.size, ⟨hu, hb⟩, fun i hi => (hg.cell hb hm.1 hm.2 hu.2).trans (hc i hi)⟩
/-- the rows of a split, at hand -/
def RowsHere (w : World) (pg lo hi : Nat) (outs : List Int) (s : Nat) : Prop := ∀ o, o < 4 → ∃ Ar cr, w.cell? ⟨pg, o, none⟩ = some (.slice Ar (bitsI (partS outs s o)).length cr) ∧ (bitsI (partS outs s o)).length ≤ cr ∧ IntsU w (fun b => lo ≤ b ∧ b < hi) Ar (bitsI (partS outs s o))
theorem RowsHere.keep {w w' : World} {pg lo hi : Nat} {outs : List Int} {s : Nat} (h : RowsHere w pg lo hi outs s) (hs : w.heap.size ≤ w'.heap.size) (hp : lo ≤ pg ∧ pg < hi) (hb : ∀ b, lo ≤ b → b < hi → w'.heap[b]? = w.heap[b]?) : RowsHere w' pg lo hi outs s := fun o ho => by
  obtain ⟨Ar, cr, h1, h2, h3⟩ := h o ho
  exact ⟨Ar, cr, (World.cell?_of_block (a := ⟨pg, o, none⟩) (hb pg hp.1 hp.2)).trans h1, h2, h3.keep hs (fun b _ hu => hb b hu.1 hu.2) (fun _ _ hu => hu)⟩
set_option maxRecDepth 100000 in
set_option maxHeartbeats 16000000 in
theorem rgrow_step (B0 base gp m1 m2 : Nat) (A1 : Option Addr) (c1 : Nat) (A2 : Option Addr) (c2 : Nat) (c : MCase) (hc : caseB c = true) (s : Nat) (hs : s < 2 ^ c.weights.length)
    (ih : ∀ t, t < s → ∀ (w : World) (As : Option Addr) (cs : Nat) (p : Nat → Prop) (U : Nat → Nat → Prop) (pv : PV) (v : Value) (F : List MFork), RPre w B0 base gp m1 m2 A1 c1 A2 c2 c p U pv v F As t → (bitsI t).length ≤ cs → F.length + (growS c t F.length).length ≤ 1000000 →
      Calls Tryd.prog 60 #[.pointer (some ⟨gp, 0, none⟩), .slice As (bitsI t).length cs, v] w (RPost w B0 base gp m1 m2 A1 c1 A2 c2 c p U pv v F t))
    (w : World) (As : Option Addr) (cs : Nat) (pp : Nat → Prop) (U : Nat → Nat → Prop) (pv : PV) (v : Value) (F : List MFork) (hp : RPre w B0 base gp m1 m2 A1 c1 A2 c2 c pp U pv v F As s) (hcs : (bitsI s).length ≤ cs) (hlen : F.length + (growS c s F.length).length ≤ 1000000) :
    Calls Tryd.prog 60 #[.pointer (some ⟨gp, 0, none⟩), .slice As (bitsI s).length cs, v] w (RPost w B0 base gp m1 m2 A1 c1 A2 c2 c pp U pv v F s) := by
  have hok := caseOk hc
  have hs12 := pow12 hok.n2 hs
  have hm12 := hok.t
  have hn12 := hok.n2
  have hbs := hp.bs
  have hbg := hp.bg
  have hb1 := hp.b1
  have hb2 := hp.b2
  have hll := bitsI_len s
  have HP := Lib.hid hp
  have HOK := Lib.hid hok
  have HIH := Lib.hid ih
  have HSS := Lib.hid hs
  have HC := Lib.hid hc
  have HLEN := Lib.hid hlen
  have hFl : F.length ≤ 1000000 := by omega
  obtain ⟨Av, vcap, hv, hvc⟩ := hp.out.lenV
  subst hv
  have H62 : Hid (Calls Tryd.prog 62 #[.pointer (some ⟨gp, 0, none⟩), .slice As (bitsI s).length cs] w (LeastPost w B0 gp m1 m2 A1 c1 A2 c2 c pp s)) := least_any B0 gp m1 m2 A1 c1 A2 c2 c hc s hs w As cs pp hp.we (hp.set.keep (Nat.le_refl _) (fun _ _ _ => rfl) (fun b _ hu => hp.hm _ _ hu.1))
  unfold LeastPost at H62
  obtain ⟨al, hal⟩ : ∃ al, alikeB c s (-1) = al := ⟨_, rfl⟩
  have HAL := Lib.hid hal
  have hvlt := hp.out.lt
  have HVL := Lib.hid hvlt
  have H96 : Hid (∀ wx q, WE wx B0 gp m1 m2 A1 c1 A2 c2 c q → Gn w wx m1 m2 (Value.ownBlock (.slice Av F.length vcap)) → Calls Tryd.prog 96 #[.agg #[.slice A1 c.weights.length c1, .slice A2 c.tests.length c2], .slice As (bitsI s).length cs] wx fun e w' => e = .returned (.bool al) ∧ Below wx.heap.size wx w') := fun wx q hw hg => rsame_any A1 A2 c1 c2 c As cs s wx (hw.ca.more (by have := hw.le; have := hw.lt; omega)) hc hs ((hp.setAt hg).ints (by unfold maxLen; omega)) hal
  clear hp hok ih hs hlen hc hvc hal hvlt
  rcases al with _ | _
  rotate_left
  · have HLF : Hid ((bestS c s).1 = -1) := by show _ = _; rw [best_leaf hs12 HAL.out]
    go_enter Tryd.func60, Tryd.ntmps60
    go_wp2_with (first
      | (go_at_call 62; (with_reducible refine H62.out.mono ?_); rintro e w2 ⟨rfl, q2, hq2, _, hW2, hG2⟩; have HQ2 := Lib.hid hq2; have HW2 := Lib.hid hW2; have HG2 := Lib.hid hG2; have y0 := HW2.out.g0; have y1 := HW2.out.g1; clear hq2 hW2 hG2)
      | (go_at_call 96; (with_reducible refine (H96.out _ q2 HW2.out (.of_gm HG2.out)).mono ?_); rintro e w3 ⟨rfl, hb3⟩; have HB3 := Lib.hid hb3; have HOV := Lib.hid (fun (o : Obj) => ((HP.out.out.gm HG2.out HP.out.hm HP.out.b1 HP.out.b2).keep hb3).keep ((Below.refl w3.heap.size w3).alloc (Nat.le_refl _) o)); have HGN := Lib.hid (fun (o : Obj) => (Gn.of_gm (r := Value.ownBlock (.slice Av F.length vcap)) HG2.out).far (Gn.of_below (r := none) (hb3.trans (((Below.refl w3.heap.size w3).alloc (Nat.le_refl _) o).mono hb3.size))) (fun k hk => by cases hk)); have HFU := Lib.hid (fun (o : Obj) => (show ForkU (w3.alloc o) (fun b => U F.length b ∧ some b ≠ Value.ownBlock (.slice Av F.length vcap)) ((none, 0), (As, cs)) ⟨-1, [], bitsI s⟩ from ⟨fun h => absurd h (by simp), Nat.le_refl _, (HP.out.setAt (HGN.out o)).keep (Nat.le_refl _) (fun _ _ _ => rfl) (fun _ _ hu => hu.1), hcs⟩)); have hs3 : base ≤ w3.heap.size := Nat.le_trans hbs (Nat.le_trans HG2.out.size hb3.size); have hw3 : w.heap.size ≤ w3.heap.size := Nat.le_trans HG2.out.size hb3.size; clear hb3)
      | (at_builtin; refine app_forkV _ rfl _ _ rfl base U pv _ F rfl (HOV.out _) _ rfl ⟨-1, [], bitsI s⟩ ((none, 0), (As, cs)) (HFU.out _) (newcell' (by simp)) (newcell' (by simp)) (newcell' (by simp)) (by omega) (by simp; omega) ?_; intro g6 cap6 w6 hO6 hg6 hat6 _; have HO6 := Lib.hid hO6; have HG6 := Lib.hid hg6; have HAT := Lib.hid hat6; have HGZ := Lib.hid ((HGN.out _).far (Gn.of_row hg6) (fun k hk => Or.inl hk)); clear hO6 hg6 hat6))
    go_ret
    refine ⟨_, fun i => if i = F.length then ((none, 0), (As, cs)) else pv i, q2, rfl, ?_, fun i hi => if_neg (Nat.ne_of_lt hi), ?_, HQ2.out, HGZ.out, fun g' hg' => ?_⟩
    · rw [growS_leaf (by rw [HLF.out]; decide), HLF.out]; exact HO6.out
    · exact (HW2.out.below HB3.out).belowB (((Below.refl base w3).alloc hs3 _).grown HG6.out (by simp; omega) (fun k hk => (HVL.out k hk).1)) hbg hb1 hb2
    · have hg' : some g6 = some g' := hg'
      injection hg' with hg'
      subst hg'
      rcases HAT.out with e | e
      · exact .inl e
      · exact .inr (by rw [e]; simp; omega)
  · have hge : ¬ (bestS c s).1 < 0 := fun h => by
      have := best_none hs12 h
      rw [HAL.out] at this
      cases this
    have hcap := bestS_cap HOK.out HSS.out
    obtain ⟨tn, htn⟩ : ∃ t : Nat, (bestS c s).1 = (t : Int) := ⟨(bestS c s).1.toNat, by omega⟩
    have htl : tn < c.tests.length := by omega
    have HTN := Lib.hid htn
    have h2p := bestS_parts hs12 (c := c) (s := s) (by omega)
    clear hge hcap htn
    have HQ1 := Lib.hid h2p
    have HMSK : Hid (∀ wx : World, Gn w wx m1 m2 (Value.ownBlock (.slice Av F.length vcap)) → Calls Tryd.prog 97 #[.slice As (bitsI s).length cs] wx fun e w' => e = .returned (.int .i64 s) ∧ wx = w') := fun wx hg => mask_any As cs s wx hs12 ((HP.out.setAt hg).ints (by unfold maxLen; omega)) rfl
    clear h2p
    go_enter Tryd.func60, Tryd.ntmps60
    go_upto_region 4 with (first
      | (go_at_call 62; (with_reducible refine H62.out.mono ?_); rintro e w2 ⟨rfl, q2, hq2, hqs, hW2, hG2⟩; have HQ2 := Lib.hid hq2; have HQS := Lib.hid (hqs HAL.out); have HW2 := Lib.hid hW2; have HG2 := Lib.hid hG2; have y0 := HW2.out.g0; have y1 := HW2.out.g1; clear hq2 hW2 hG2 hqs)
      | (go_at_call 96; (with_reducible refine (H96.out _ q2 HW2.out (.of_gm HG2.out)).mono ?_); rintro e w3 ⟨rfl, hb3⟩; have HG3 := Lib.hid ((Gn.of_gm (r := Value.ownBlock (.slice Av F.length vcap)) HG2.out).far (Gn.of_below (r := none) hb3) (fun k hk => by cases hk)); have HW3 := Lib.hid (HW2.out.below hb3); have HO3 := Lib.hid ((HP.out.out.gm HG2.out HP.out.hm HP.out.b1 HP.out.b2).keep hb3); clear hb3))
    clear y0 y1
    have y3 := HW3.out.g3
    have HLK : ∀ n, (Instr.lookup 103 (.map (some m2)) (.int .i64 (s : Int)) false).run Tryd.prog (w3.drewN n) = .ok (.int .i64 (tn : Int)) (w3.drewN n) := fun n => by
      have h9 := (HW3.out.k2.below (below_drewN (Below.refl w3.heap.size w3) n) HW3.out.k2.lt).look hs12 HQS.out
      rw [HTN.out] at h9
      exact h9
    go_quiet ((go_at_call 97; exact quiet_w (HMSK.out _ ⟨HG3.out.os, HG3.out.tape, HG3.out.output, HG3.out.size, HG3.out.block⟩)))
    have HG4 : Hid (Gn w (w3.drewN nq) m1 m2 (Value.ownBlock (.slice Av F.length vcap))) := ⟨HG3.out.os, HG3.out.tape, HG3.out.output, HG3.out.size, HG3.out.block⟩
    have HW4 := Lib.hid (HW3.out.below (below_drewN (Below.refl w3.heap.size w3) nq))
    have HO4 := Lib.hid (HO3.out.keep (below_drewN (Below.refl w3.heap.size w3) nq))
    clear HLK y3 HG3 HW3 HO3 HG2 HW2 H62 H96 HMSK
    generalize w3.drewN nq = w4 at *
    have hs4 := HG4.out.size
    have y0 := HW4.out.g0
    have y1 := HW4.out.g1
    obtain ⟨p, tb, tf, Ap, cp, htp, hA2, _⟩ := HW4.out.ca.ts.at_ htl
    subst hA2
    have HTP := Lib.hid htp
    have HTA := Lib.hid (testAt_of htp)
    clear htp
    have HGF : Hid (growS c s F.length = ⟨(tn : Int), (kidsF (growS c) p.outs s F.length 4).2, bitsI s⟩ :: (kidsF (growS c) p.outs s F.length 4).1) := by
      show _ = _
      rw [growS_fork hs12 (by rw [HTN.out]; omega), HTN.out, HTA.out]
    have HK4 : Hid (F.length + 1 + (kidsF (growS c) p.outs s F.length 4).1.length ≤ 1000000) := by
      have h9 := HLEN.out
      rw [HGF.out, List.length_cons] at h9
      show _ ≤ _
      omega
    have HTW := Lib.hid (fun o => partsTo_two (outs := p.outs) (s := s) (o := o) (k := 4) (by have h9 := HQ1.out; rw [HTN.out, HTA.out] at h9; exact h9))
    have hm1l := HW4.out.k1.lt
    have hm2l := HW4.out.k2.lt
    have hgl := HW4.out.lt
    have HOV : Hid (∀ o1 o2 : Obj, OutV ((w4.alloc o1).alloc o2) base (fun i b => U i b ∧ (i ≠ F.length → b ≠ w4.heap.size)) pv (.slice Av F.length vcap) F) := fun o1 o2 => ((HO4.out.reU fun i _ b hb hu => ⟨hu, fun _ => by omega⟩).keep ((Below.refl _ _).alloc (Nat.le_refl _) _)).keep ((Below.refl _ _).alloc (Nat.le_refl _) _)
    have HGX : Hid (∀ o1 o2 : Obj, Gn w ((w4.alloc o1).alloc o2) m1 m2 (Value.ownBlock (.slice Av F.length vcap))) := fun o1 o2 => HG4.out.far (Gn.of_below (r := none) (((Below.refl _ _).alloc (Nat.le_refl _) _).alloc (by simp) _)) (fun k hk => by cases hk)
    have HFU : Hid (∀ o2 : Obj, ForkU ((w4.alloc (.cells #[.int .i64 (-1), .int .i64 (-1), .int .i64 (-1), .int .i64 (-1)] 3)).alloc o2) (fun b => (U F.length b ∧ (F.length ≠ F.length → b ≠ w4.heap.size)) ∧ some b ≠ Value.ownBlock (.slice Av F.length vcap)) ((some ⟨w4.heap.size, 0, none⟩, 4), (As, cs)) ⟨(tn : Int), [-1, -1, -1, -1], bitsI s⟩) := fun o2 => by
      refine ⟨fun _ => ⟨w4.heap.size, 0, rfl, by simp; omega, ⟨⟨HP.out.hU _ (Nat.le_refl _) _ hs4, fun h => absurd rfl h⟩, fun e => ?_⟩, fun j hj => ?_⟩, Nat.le_refl _, (HP.out.setAt (HGX.out _ o2)).keep (Nat.le_refl _) (fun _ _ _ => rfl) (fun _ _ hu => ⟨⟨hu.1.1, fun h => absurd rfl h⟩, hu.1.2⟩), hcs⟩
      · have := (HVL.out _ e.symm).2
        omega
      · rw [Nat.zero_add, acell _ _ _ _ (by simp), newcell]
        have hj : j < 4 := hj
        rcases (show j = 0 ∨ j = 1 ∨ j = 2 ∨ j = 3 by omega) with rfl | rfl | rfl | rfl <;> rfl
    have HNB : Hid (∀ o2 : Obj, OwnF ((w4.alloc (.cells #[.int .i64 (-1), .int .i64 (-1), .int .i64 (-1), .int .i64 (-1)] 3)).alloc o2) w4.heap.size 3 4 (fun j => .int .i64 (([-1, -1, -1, -1] : List Int).getD j 0))) := fun o2 => (own_new w4 #[.int .i64 (-1), .int .i64 (-1), .int .i64 (-1), .int .i64 (-1)] 3 (n := 4) (f := fun j => .int .i64 (([-1, -1, -1, -1] : List Int).getD j 0)) (by simp) (fun j hj => by
      rcases (show j = 0 ∨ j = 1 ∨ j = 2 ∨ j = 3 by omega) with rfl | rfl | rfl | rfl <;> rfl)).alloc o2
    have HWX : Hid (∀ (o1 o2 : Obj) (w6 : World), ((w4.alloc o1).alloc o2).grownBy w6 (Value.ownBlock (.slice Av F.length vcap)) → WE w6 B0 gp m1 m2 A1 c1 (some ⟨tb, tf, none⟩) c2 c q2) := fun o1 o2 w6 hg => HW4.out.belowB ((((Below.refl base w4).alloc (by omega) _).alloc (by simp; omega) _).grown hg (by simp; omega) (fun k hk => (HVL.out k hk).1)) hbg hb1 hb2
    have H98 : Hid (∀ wx, WE wx B0 gp m1 m2 A1 c1 (some ⟨tb, tf, none⟩) c2 c q2 → Gn w wx m1 m2 (Value.ownBlock (.slice Av F.length vcap)) → Calls Tryd.prog 98 #[.agg #[.slice A1 c.weights.length c1, .slice (some ⟨tb, tf, none⟩) c.tests.length c2], .slice As (bitsI s).length cs, .int .i64 tn] wx fun e w' => ∃ g cap, e = .returned (.slice (some ⟨g, 0, none⟩) 4 cap) ∧ OutRR w' wx.heap.size (.slice (some ⟨g, 0, none⟩) 4 cap) (partsI p.outs s) ∧ Below wx.heap.size wx w') := fun wx hw hg => by
      refine (rsplit_any A1 _ c1 c2 c As cs s tn p wx (hw.ca.more (by have := hw.le; have := hw.lt; omega)) HOK.out HSS.out ((HP.out.setAt hg).ints (by unfold maxLen; omega)) HTP.out).mono ?_
      rintro e w' ⟨⟨v, he, hO⟩, hb⟩
      obtain ⟨g, cap, _, hv, _⟩ := hO.at_ (i := 0) (by rw [partsI_len]; omega)
      rw [partsI_len] at hv
      subst hv
      exact ⟨g, cap, he, hO, hb⟩
    clear y0 y1
    go_wp2_with (first
      | (at_builtin; refine app_forkV _ rfl _ _ rfl base (fun i b => U i b ∧ (i ≠ F.length → b ≠ w4.heap.size)) pv _ F rfl (HOV.out _ _) _ rfl ⟨(tn : Int), [-1, -1, -1, -1], bitsI s⟩ ((some ⟨w4.heap.size, 0, none⟩, 4), (As, cs)) (HFU.out _) (newcell' (by simp)) (newcell' (by simp)) (newcell' (by simp)) (by omega) (by simp; omega) ?_; intro g6 cap6 w6 hO6 hg6 hat6 _; have HO6 := Lib.hid hO6; have HG6 := Lib.hid ((HGX.out _ _).far (Gn.of_row hg6) (fun k hk => Or.inl hk)); have HW6 := Lib.hid (HWX.out _ _ _ hg6); have HAT : Hid (∀ k, Value.ownBlock (.slice (some ⟨g6, 0, none⟩) (F.length + 1) cap6) = some k → Value.ownBlock (.slice Av F.length vcap) = some k ∨ w.heap.size ≤ k) := (fun k hk => by { injection hk with hk; subst hk; exact hat6.imp id (fun e => by rw [e]; simp; omega) }); have HN6 := Lib.hid ((HNB.out _).grown hg6 (fun e => by have := (HVL.out _ e.symm).2; omega)); have y0 := HW6.out.g0; have y1 := HW6.out.g1; clear hO6 hg6 hat6)
      | (go_at_call 98; (with_reducible refine (H98.out _ HW6.out HG6.out).mono ?_); rintro e w7 ⟨pg, cpg, rfl, hO7, hb7⟩; have HOR := Lib.hid hO7; have HB7 := Lib.hid hb7; clear hO7 hb7))
    have HO7 := Lib.hid (HO6.out.keep HB7.out)
    have HN7 := Lib.hid (HN6.out.below HB7.out HN6.out.lt)
    have HG7 := Lib.hid (HG6.out.far (Gn.of_below (r := none) HB7.out) (fun k hk => by cases hk))
    have HW7 := Lib.hid (HW6.out.below HB7.out)
    have hs6 := HG6.out.size
    have hs7 := HB7.out.size
    have hnb6 := HN6.out.lt
    have hpg := HOR.out.lt pg rfl
    have h6lt := HO6.out.lt
    have H6LT := Lib.hid h6lt
    have HROW : Hid (RowsHere w7 pg w6.heap.size w7.heap.size p.outs s) := fun o ho => row_at' HOR.out ho
    clear HOV HFU HNB HGX HWX H98 HO6 HN6 HW6 HB7 HOR y0 y1 h6lt HO4 HW4
    go_loopw [10, 2] (fun vo vv wy => ∃ (o M cap : Nat) (A : Option Addr) (K : List MFork) (L : List Int) (pvx : PV) (q : Nat → Prop), o ≤ 4 ∧ vo = .int .i64 o ∧ vv = .slice A M cap ∧ M = F.length + 1 + K.length ∧ Hid (kidsF (growS c) p.outs s F.length o = (K, L)) ∧ Hid (OutV wy base (fun i b => U i b ∧ (i ≠ F.length → b ≠ w4.heap.size)) pvx vv (F ++ ⟨(tn : Int), L ++ List.replicate (4 - o) (-1), bitsI s⟩ :: K)) ∧ Hid (pvx F.length = ((some ⟨w4.heap.size, 0, none⟩, 4), (As, cs))) ∧ Hid (∀ i, i < F.length → pvx i = pv i) ∧ Hid (OwnF wy w4.heap.size 3 4 (fun j => .int .i64 ((L ++ List.replicate (4 - o) (-1)).getD j 0))) ∧ Hid (Gn w wy m1 m2 (Value.ownBlock (.slice Av F.length vcap))) ∧ Hid (w7.heap.size ≤ wy.heap.size) ∧ Hid (RowsHere wy pg w6.heap.size w7.heap.size p.outs s) ∧ Hid (∀ k, vv.ownBlock = some k → Value.ownBlock (.slice (some ⟨g6, 0, none⟩) (F.length + 1) cap6) = some k ∨ w7.heap.size ≤ k) ∧ Hid (WE wy B0 gp m1 m2 A1 c1 (some ⟨tb, tf, none⟩) c2 c q) ∧ Hid (∀ k, pp k → q k)) (fun vo _ _ => 4 - (intOf vo).toNat)
    case atStart => exact ⟨0, F.length + 1, cap6, some ⟨g6, 0, none⟩, [], [], _, q2, by omega, rfl, rfl, rfl, rfl, HO7.out, if_pos rfl, fun i hi => if_neg (by omega), HN7.out, HG7.out, Nat.le_refl _, HROW.out, fun k hk => Or.inl hk, HW7.out, HQ2.out⟩
    case round =>
      clear HO7 HN7 HW7
      obtain ⟨o, M, cap, A, K, L, pvx, q, ho4, rfl, rfl, hM, HKL, HOX, HPN, HPV, HNX, HGW, HSY, HRW, HAX, HWY, HQQ⟩ := hrel
      rename World => wy
      have hsy : w7.heap.size ≤ wy.heap.size := HSY.out
      have hsw := HGW.out.size
      by_cases ho : o < 4
      · have hL : L.length = o := by
          have h9 := kidsF_len (growS c) p.outs s F.length o
          rw [HKL.out] at h9
          exact h9
        have hFl2 : (F ++ (⟨(tn : Int), L ++ List.replicate (4 - o) (-1), bitsI s⟩ : MFork) :: K).length = M := by rw [List.length_append, List.length_cons, hM]; omega
        have hnl : (L ++ List.replicate (4 - o) (-1 : Int)).length = 4 := by rw [List.length_append, List.length_replicate, hL]; omega
        have hFM : F.length < M := by omega
        have hnx := HOX.out.nextCell (n := F.length) (by omega)
        rw [get_mid, HPN.out, hFl2] at hnx
        obtain ⟨g, cap9, hvg, hgb, hgl9, t9⟩ := hnx
        injection hvg with hA _ hcap9
        subst hA
        subst hcap9
        have t0 : wy.cell? ⟨g, F.length * 3 + 1, none⟩ = some (.slice (some ⟨w4.heap.size, 0, none⟩) 4 4) := by rw [t9, hnl]
        clear t9
        have k0 := HNX.out.cell ho
        have kf := HNX.out.frozen o
        obtain ⟨Ar, cr, r0, hcr, hIr⟩ := HRW.out o ho
        have hlx := bitsI_len (partS p.outs s o)
        have hnbo := HOX.out.notOwn (n := F.length) (nb := w4.heap.size) (by omega) (by rw [HPN.out]) (by rw [get_mid]; show 0 < (L ++ List.replicate (4 - o) (-1 : Int)).length; omega)
        have hpos := bitsI_pos (partS_lt p.outs s o)
        by_cases hx : 0 < partS p.outs s o
        · obtain ⟨q9, _, hqo, hq2'⟩ := HTW.out o
          have hxs : partS p.outs s o < s := partS_ne hs12 (fun e => hqo e.symm) hq2'
          have HKY : Hid (kidsF (growS c) p.outs s F.length (o + 1) = (K ++ growS c (partS p.outs s o) M, L ++ [(M : Int)])) := by
            show _ = _
            rw [kidsF_yes hx, HKL.out]
            show (K ++ growS c _ (F.length + 1 + K.length), L ++ [((F.length + 1 + K.length : Nat) : Int)]) = _
            rw [← hM]
          have hml : F.length + 1 + (kidsF (growS c) p.outs s F.length (o + 1)).1.length ≤ 1000000 := by
            have h9 := kidsF_mono (growS c) p.outs s F.length (o + 1) (4 - (o + 1))
            rw [show o + 1 + (4 - (o + 1)) = 4 by omega] at h9
            exact Nat.le_trans (Nat.add_le_add_left h9 _) HK4.out
          rw [HKY.out, List.length_append] at hml
          have hset := HOX.out.setIn (n := F.length) (nb := w4.heap.size) (o := o) (by omega) (by rw [HPN.out]) (by
            rw [get_mid, HPN.out]
            exact (HP.out.setAt HGW.out).keep (Nat.le_refl _) (fun _ _ _ => rfl) (fun b _ hu => by have := hu.2; omega)) (fun i hi b hu => hu.2 hi) (by rw [get_mid, hnl]; exact ho) (by rw [get_mid, hnl]; exact HNX.out) (M : Int)
          rw [get_mid, set_mid, rep_set hL ho] at hset
          have HOS := Lib.hid hset
          have HNS : Hid (OwnF (wy.setCell ⟨w4.heap.size, o, none⟩ (.int .i64 M)) w4.heap.size 3 4 (fun j => .int .i64 (((L ++ [(M : Int)]) ++ List.replicate (4 - (o + 1)) (-1)).getD j 0))) := (HNX.out.set o (.int .i64 M)).congr fun j hj => by
            rw [← rep_set hL ho]
            by_cases e : j = o
            · subst e
              rw [if_pos rfl, List.getD_eq_getElem?_getD, List.getElem?_set_self (by omega)]
              rfl
            · rw [if_neg e, List.getD_eq_getElem?_getD (l := List.set _ _ _), List.getElem?_set_ne (fun e3 => e e3.symm), List.getD_eq_getElem?_getD]
          have hFl3 : (F ++ (⟨(tn : Int), (L ++ [(M : Int)]) ++ List.replicate (4 - (o + 1)) (-1), bitsI s⟩ : MFork) :: K).length = M := by rw [List.length_append, List.length_cons, hM]; omega
          have hbst : Below base wy (wy.setCell ⟨w4.heap.size, o, none⟩ (.int .i64 M)) := (Below.refl base wy).setCell (p := ⟨w4.heap.size, o, none⟩) (show base ≤ w4.heap.size by omega) _
          have HGS : Hid (Gn w (wy.setCell ⟨w4.heap.size, o, none⟩ (.int .i64 M)) m1 m2 (Value.ownBlock (.slice Av F.length vcap))) := HGW.out.set hs4 _
          have hss : (wy.setCell ⟨w4.heap.size, o, none⟩ (.int .i64 M)).heap.size = wy.heap.size := World.size_setCell ..
          have HRS : Hid (RowsHere (wy.setCell ⟨w4.heap.size, o, none⟩ (.int .i64 M)) pg w6.heap.size w7.heap.size p.outs s) := HRW.out.keep (Nat.le_of_eq hss.symm) hpg (fun b hb1 _ => Below.heap_setCell wy ⟨w4.heap.size, o, none⟩ _ b (show b ≠ w4.heap.size by omega))
          have HWS := Lib.hid (HWY.out.belowB hbst hbg hb1 hb2)
          have HPR : Hid (RPre (wy.setCell ⟨w4.heap.size, o, none⟩ (.int .i64 M)) B0 base gp m1 m2 A1 c1 (some ⟨tb, tf, none⟩) c2 c q (fun i b => U i b ∧ (i ≠ F.length → b ≠ w4.heap.size)) pvx (.slice (some ⟨g, 0, none⟩) M cap) (F ++ (⟨(tn : Int), (L ++ [(M : Int)]) ++ List.replicate (4 - (o + 1)) (-1), bitsI s⟩ : MFork) :: K) Ar (partS p.outs s o)) := by
            refine ⟨HWS.out, by rw [hss]; omega, hbg, hb1, hb2, HOS.out, fun i hi b hb => ⟨HP.out.hU i (by rw [hFl3] at hi; omega) b (by rw [hss] at hb; omega), fun _ => by rw [hss] at hb; omega⟩, fun i b hu => HP.out.hm i b hu.1, ?_⟩
            obtain ⟨Ar', cr', e1, _, e3⟩ := HRS.out o ho
            have e2 : (wy.setCell ⟨w4.heap.size, o, none⟩ (.int .i64 M)).cell? ⟨pg, o, none⟩ = some (.slice Ar (bitsI (partS p.outs s o)).length cr) := (cell_far2 (w := wy) (by omega)).trans r0
            rw [e1] at e2
            injection e2 with e2
            injection e2 with e2 _ _
            subst e2
            refine e3.keep (Nat.le_refl _) (fun _ _ _ => rfl) (fun b hb hu => ⟨⟨HP.out.hU _ (by rw [hFl3]; omega) b (by have := hu.1; omega), fun _ => by have := hu.1; omega⟩, fun e => ?_⟩)
            rcases HAX.out b e.symm with e4 | e4
            · have := (H6LT.out b e4).2
              have := hu.1
              omega
            · have := hu.2
              omega
          have HIX : Hid (Calls Tryd.prog 60 #[.pointer (some ⟨gp, 0, none⟩), .slice Ar (bitsI (partS p.outs s o)).length cr, .slice (some ⟨g, 0, none⟩) M cap] (wy.setCell ⟨w4.heap.size, o, none⟩ (.int .i64 M)) (RPost (wy.setCell ⟨w4.heap.size, o, none⟩ (.int .i64 M)) B0 base gp m1 m2 A1 c1 (some ⟨tb, tf, none⟩) c2 c q (fun i b => U i b ∧ (i ≠ F.length → b ≠ w4.heap.size)) pvx (.slice (some ⟨g, 0, none⟩) M cap) (F ++ (⟨(tn : Int), (L ++ [(M : Int)]) ++ List.replicate (4 - (o + 1)) (-1), bitsI s⟩ : MFork) :: K) (partS p.outs s o))) := HIH.out _ hxs _ Ar cr q _ pvx _ _ HPR.out hcr (by rw [hFl3]; omega)
          have s0 : (wy.setCell ⟨w4.heap.size, o, none⟩ (.int .i64 M)).cell? ⟨pg, o, none⟩ = some (.slice Ar (bitsI (partS p.outs s o)).length cr) := (cell_far2 (by omega)).trans r0
          obtain ⟨lx, hlxe⟩ : ∃ lx, (bitsI (partS p.outs s o)).length = lx := ⟨_, rfl⟩
          have hl0 : 0 < lx := by rw [← hlxe]; exact hpos.2 hx
          rw [hlxe] at r0 s0 HIX
          have ho4i : (o : Int) < 4 := by omega
          have HNBO : Hid (some w4.heap.size ≠ Value.ownBlock (.slice (some ⟨g, 0, none⟩) M cap)) := hnbo
          have HMM := Lib.hid hM
          have HF3 := Lib.hid hFl3
          have HSS3 := Lib.hid hss
          clear hset hnbo hlxe hpos hIr hqo hq2' hlx hM hFl3 hFl2 hnl hL hss
          go_wp2_with (go_at_call 60; (with_reducible refine HIX.out.mono ?_); rintro e w9 ⟨v9, pv9, q9', rfl, hO9, hpv9, hW9, hqq9, hg9, hat9⟩; obtain ⟨A9, cap9, hv9, _⟩ := hO9.lenV; have HO9 := Lib.hid hO9; have HP9 := Lib.hid hpv9; have HG9 := Lib.hid hg9; have HA9 := Lib.hid hat9; have HV9 := Lib.hid hv9; have HW9 := Lib.hid hW9; have HQ9 := Lib.hid hqq9; clear hO9 hpv9 hg9 hat9 hv9 hW9 hqq9)
          go_roundw
          case rel =>
            refine ⟨o + 1, M + (growS c (partS p.outs s o) M).length, cap9, A9, K ++ growS c (partS p.outs s o) M, L ++ [(M : Int)], pv9, q9', by omega, by go_num, ?_, ?_, HKY.out, ?_, ?_, ?_, ?_, ?_, ?_, ?_, ?_, HW9.out, ?_⟩
            · have h9 := HV9.out
              rw [List.length_append, HF3.out] at h9
              exact h9
            · have hM := HMM.out
              rw [List.length_append]; omega
            · have h9 := HO9.out
              rw [HF3.out, List.append_assoc, List.cons_append] at h9
              exact h9
            · show _ = _
              rw [HP9.out _ (by rw [HF3.out]; omega)]
              exact HPN.out
            · exact fun i hi => (HP9.out i (by rw [HF3.out]; omega)).trans (HPV.out i hi)
            · have hlt9 : w4.heap.size < (wy.setCell ⟨w4.heap.size, o, none⟩ (.int .i64 M)).heap.size := by rw [HSS3.out]; omega
              obtain ⟨C, hC, hr⟩ := HNS.out
              exact ⟨C, (HG9.out.block w4.heap.size hlt9 (by omega) (by omega) HNBO.out).trans hC, hr⟩
            · exact HGS.out.far HG9.out (fun k hk => (HAX.out k hk).elim (fun h => HAT.out k h) (fun h => Or.inr (by omega)))
            · have h9 := HG9.out.size
              rw [HSS3.out] at h9
              exact Nat.le_trans hsy h9
            · refine HRS.out.keep HG9.out.size hpg (fun b hb1' hb2' => HG9.out.block b (by rw [HSS3.out]; omega) (by omega) (by omega) fun e => ?_)
              rcases HAX.out b e.symm with e4 | e4
              · have := (H6LT.out b e4).2
                omega
              · omega
            · exact fun k hk => (HA9.out k hk).elim (fun h => HAX.out k h) (fun h => Or.inr (by rw [HSS3.out] at h; omega))
            · exact fun k hk => HQ9.out k (HQQ.out k hk)
          case measure => simp [intOf]; omega
        · have HKN : Hid (kidsF (growS c) p.outs s F.length (o + 1) = (K, L ++ [(-1 : Int)])) := by
            show _ = _
            rw [kidsF_no hx, HKL.out]
          have hl0 : (bitsI (partS p.outs s o)).length = 0 := by
            rcases Nat.eq_zero_or_pos (bitsI (partS p.outs s o)).length with e | e
            · exact e
            · exact absurd (hpos.1 e) hx
          rw [hl0] at r0
          have HR : Hid (L ++ List.replicate (4 - o) (-1) = (L ++ [(-1 : Int)]) ++ List.replicate (4 - (o + 1)) (-1)) := rep_same ho
          have ho4i : (o : Int) < 4 := by omega
          have HMM := Lib.hid hM
          clear hpos hIr hnbo hlx hl0 t0 k0 kf hM hFl2 hnl hL
          go_wp2_with fail
          go_roundw
          case rel => exact ⟨o + 1, M, cap, some ⟨g, 0, none⟩, K, L ++ [(-1 : Int)], pvx, q, by omega, by go_num, rfl, HMM.out, HKN.out, by rw [← HR.out]; exact HOX.out, HPN.out, HPV.out, by rw [← HR.out]; exact HNX.out, HGW.out, HSY.out, HRW.out, HAX.out, HWY.out, HQQ.out⟩
          case measure => simp [intOf]; omega
      · obtain rfl : o = 4 := by omega
        go_wp2_with fail
        go_ret
        refine ⟨_, pvx, q, rfl, ?_, HPV.out, HWY.out, HQQ.out, HGW.out, fun k hk => (HAX.out k hk).elim (fun h => HAT.out k h) (fun h => Or.inr (by omega))⟩
        have h9 := HOX.out.reU (U' := U) (fun i _ b _ hu => hu.1)
        rw [HGF.out, HKL.out]
        rw [show L ++ List.replicate (4 - 4) (-1) = L from List.append_nil L] at h9
        exact h9
theorem rgrow_any (B0 base gp m1 m2 : Nat) (A1 : Option Addr) (c1 : Nat) (A2 : Option Addr) (c2 : Nat) (c : MCase) (hc : caseB c = true) : ∀ (s : Nat), s < 2 ^ c.weights.length → ∀ (w : World) (As : Option Addr) (cs : Nat) (p : Nat → Prop) (U : Nat → Nat → Prop) (pv : PV) (v : Value) (F : List MFork), RPre w B0 base gp m1 m2 A1 c1 A2 c2 c p U pv v F As s → (bitsI s).length ≤ cs → F.length + (growS c s F.length).length ≤ 1000000 →
      Calls Tryd.prog 60 #[.pointer (some ⟨gp, 0, none⟩), .slice As (bitsI s).length cs, v] w (RPost w B0 base gp m1 m2 A1 c1 A2 c2 c p U pv v F s) := by
  intro s
  induction s using Nat.strongRecOn with
  | ind s ih => exact fun hs w As cs p U pv v F hp hcs hl => rgrow_step B0 base gp m1 m2 A1 c1 A2 c2 c hc s hs (fun t ht => ih t ht (by omega)) w As cs p U pv v F hp hcs hl
end Go.Proofs.YtonpemikodajdaaDoor
