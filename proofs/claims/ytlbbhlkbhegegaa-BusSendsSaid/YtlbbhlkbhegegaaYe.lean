/- Walks: come. -/
import Derived.Test.YtlbbhlkbhegegaaYm
import Derived.Test.YtlbbhlkbhegegaaTail
import Derived.Deep.DeepCutAuto
namespace Go.Proofs.Ytlbbhlkbhegegaa
open Go.RowKit

theorem cell?_far (w : World) {b c : Nat} (k j : Nat) {v : Value} (h : b ≠ c) : (w.setCell ⟨c, j, none⟩ v).cell? ⟨b, k, none⟩ = w.cell? ⟨b, k, none⟩ := World.cell?_of_block (Below.heap_setCell w ⟨c, j, none⟩ v b h)
/-- the row that came, sorted -/
def RowL (w : World) (base : Nat) (own : Nat → Int) (A : Option Addr) (L : List MPkt) : Prop := 0 < L.length → ∃ d, A = some ⟨d, 0, none⟩ ∧ base ≤ d ∧ own d = curL ∧ OwnP w d L
/-- a post, whatever its rows -/
def PostR (p : PPar) (w : World) (M : Nat) (own : Nat → Int) (s : Mot) : Prop := ∃ nm hv l, nm ≤ M ∧ PostA p w nm own hv l s
theorem ownP_of_row {w : World} {base : Nat} {own : Nat → Int} {lab : Int} {v : Value} {l : List MPkt} (h : RowC PK w base own lab v l) (hz : offV v = 0) (hl : 0 < l.length) : ∃ d cap, v = .slice (some ⟨d, 0, none⟩) l.length cap ∧ base ≤ d ∧ own d = lab ∧ OwnP w d l := by
  rcases h with ⟨rfl, _⟩ | ⟨g, off, cap, F, rfl, hc, hb, ho, hO, hF⟩
  · simp at hl
  · obtain rfl : off = 0 := hz
    refine ⟨g, cap, rfl, hb, ho, ?_⟩
    obtain ⟨C, hC, hs, hf⟩ := hO
    have e4 : PK.k = 4 := rfl
    rw [e4] at hs hf hF
    refine ⟨C, hC, by omega, fun j hj => ?_⟩
    have hi : j / 4 < l.length := by omega
    have hx : l[j / 4]? = some l[j / 4] := List.getElem?_eq_getElem hi
    rw [hf j (by omega)]
    have := hF (j / 4) _ hx (j % 4) (by omega)
    rw [show 0 + j / 4 * 4 + j % 4 = j by omega] at this
    rw [this]
    show some (pkAt _ _) = some (pkAt (l.getD (j / 4) dPkt) (j % 4))
    rw [getD_of hx]
/-- the sort of what comes -/
theorem sort_come {w : World} {base : Nat} {own : Nat → Int} {t : Int} {V : Value} {C : List MPkt} (h : RowC PK w base own t V C) (hz : offV V = 0) (hC : C.length ≤ 6000) {nf : Nat} (hf : ∀ x ∈ C, 0 ≤ x.flow ∧ x.flow < nf) :
    ∃ A n cap, V = .slice A n cap ∧ n ≤ cap ∧ Calls Try.prog 112 #[.slice A n cap, .func (.func 113) #[] #[]] w fun e w' => e = .returned (.tuple #[]) ∧ n = (byF nf C).length ∧ ∃ own', RowL w' base own' A (byF nf C) ∧
      (own' = own ∧ w' = w ∨ ∃ d, base ≤ d ∧ d < w.heap.size ∧ own d = t ∧ own' = (fun g => if g = d then curL else own g) ∧ w.grownBy w' (some d)) := by
  rcases Nat.eq_zero_or_pos C.length with h0 | h0
  · obtain ⟨A, cap, hv, hc⟩ := h.form
    rw [h0] at hv hc
    obtain rfl : C = [] := List.eq_nil_of_length_eq_zero h0
    have hb : byF nf [] = [] := by
      unfold byF
      induction nf with
      | zero => rfl
      | succ k ih => rw [List.range_succ, List.flatMap_append, List.flatMap_singleton, ih (fun x hx => by cases hx)]; rfl
    refine ⟨A, 0, cap, hv, hc, (sort_none A cap w).mono fun e w' ⟨he, hw⟩ => ⟨he, by rw [hb]; rfl, own, fun hl => by rw [hb] at hl; simp at hl, .inl ⟨rfl, hw⟩⟩⟩
  · obtain ⟨d, cap, hv, hb, ho, hO⟩ := ownP_of_row h hz h0
    have hc : C.length ≤ cap := by
      obtain ⟨A, cap', hv', hc'⟩ := h.form
      rw [hv] at hv'
      injection hv' with _ _ e
      omega
    refine ⟨_, C.length, cap, hv, hc, (sortP_any (n0 := 0) C C.length cap w hO (Nat.zero_le _) rfl (by omega)).mono fun e w' ⟨he, ⟨L, ⟨hq, hs⟩, hO2⟩, hb2⟩ => ?_⟩
    have hL : L = byF nf C := by
      rw [srt_byF nf hs fun x hx => hf x (hq.mem.1 hx)]
      exact byF_congr hq
    rw [← hL]
    exact ⟨he, hq.len.symm, _, fun _ => ⟨d, rfl, hb, if_pos rfl, hO2⟩, .inr ⟨d, hb, hO.lt, ho, rfl, hb2.grown⟩⟩
theorem PostA.mark {p : PPar} {w w' : World} {nm : Nat} {own : Nat → Int} {hv : Int → Value} {l : Int → List MPkt} {s : Mot} {t : Int} (h : PostA p w nm own hv l s) (ht : hv t = nilS) {d : Nat} (hd : own d = t) (hdb : p.base ≤ d) (hg : w.grownBy w' (some d)) :
    PostA p w' nm (fun g => if g = d then curL else own g) hv l s := by
  have ho := h.ord
  have hs := h.size
  have l1 := ho.l1; have l2 := ho.l2; have l3 := ho.l3; have l4 := ho.l4; have b1 := ho.b1
  have hne : ∀ k, k < p.base → some k ≠ some d := fun k hk e => by injection e; omega
  refine ⟨(hg.block _ (by omega) (hne _ l1)).trans h.box, h.map.moved (hg.block _ (by omega) (hne _ l2)), h.lins.grown hg (hne _ l3), h.outs.grown hg (hne _ l4), fun lab => ?_, h.z, h.net.below ⟨hg.os, hg.tape, hg.output, hg.size, fun k hk => hg.block k (by omega) (hne k (by omega))⟩ (Nat.le_refl _), ho, Nat.le_trans hs hg.size, h.lk, h.wk⟩
  by_cases e : lab = t
  · have h1 := h.fam lab
    rw [e, ht] at h1
    rw [e, ht]
    rcases h1 with ⟨h2, _⟩ | ⟨g, off, cap, F, h2, _⟩
    · exact .inl ⟨h2, _, rfl⟩
    · cases h2
  · refine (h.fam lab).moved fun g _ h4 h5 => ⟨hg.block g h4 fun e2 => ?_, ?_⟩
    · have e2 : g = d := by injection e2
      subst e2
      exact e (h5.symm.trans hd)
    · show (if g = d then curL else own g) = lab
      rw [if_neg fun e2 => e (by rw [← h5, e2, hd])]; exact h5
/-- a packet put behind a line -/
theorem come_line {p : PPar} {W w7 : World} {nm : Nat} {ow : Nat → Int} {H : Int → Value} {l : Int → List MPkt} {sk : Mot} {g : Nat} {x : MPkt} {v' : Value} (hP : PostA p W nm ow H l sk) (hap : AppP PK W p.base ow H l (labG g) x v' w7) :
    ∃ own7 H7 l7, PostA p (w7.setCell ⟨p.lb, g, none⟩ v') nm own7 H7 l7 (setL sk g (sk.lines g ++ [x])) ∧ Below p.B W (w7.setCell ⟨p.lb, g, none⟩ v') ∧ ∀ d L, p.base ≤ d → ow d = curL → OwnP W d L → g ≤ 1000 → own7 d = curL ∧ OwnP (w7.setCell ⟨p.lb, g, none⟩ v') d L := by
  obtain ⟨own7, hf, ho, _, row, hg, hr⟩ := hap
  have h1 := hP.line hf hg (fun k hk => (hr k hk).1)
  rw [hP.lk g] at h1
  have hpo := hP.ord
  have l1 := hpo.l1; have l3 := hpo.l3; have b1 := hpo.b1; have b3 := hpo.b3; have hs := hP.size
  refine ⟨own7, _, _, h1, ?_, fun d L hd hdo hO hg1 => ⟨(ho d hO.lt).trans hdo, ?_⟩⟩
  · have hbl : Below p.B W w7 := ⟨hg.os, hg.tape, hg.output, hg.size, fun k hk => hg.block k (by omega) (fun e => by have := (hr k e.symm).1; omega)⟩
    exact hbl.setCell (p := ⟨p.lb, g, none⟩) b3 _
  · refine OwnF.far (p := ⟨p.lb, g, none⟩) (OwnF.grown hO hg fun e => ?_) (by show d ≠ p.lb; omega) _
    have := (hr d e.symm).2
    rw [hdo] at this
    unfold curL labG at this
    omega
section
variable {p : PPar}
set_option maxRecDepth 100000 in
set_option maxHeartbeats 4000000 in
theorem come_any (t : Int) (w : World) (M : Nat) (own : Nat → Int) (s : Mot) (h : PostR p w M own s) (hv : netB p.N = true) (hi : InvM p.N t s) (ht0 : 0 ≤ t) (ht1 : t ≤ 10000) :
    Calls Try.prog 90 #[.pointer (some ⟨p.pb, 0, none⟩), .int .i64 t] w fun e w' => e = .returned (.tuple #[]) ∧ (∃ own', PostR p w' M own' (comeM p.N t s)) ∧ Below p.B w w' := by
  obtain ⟨nm, H, l, hM, hP⟩ := h
  have hst := (hP.wk t ht0)
  have hfl : ∀ x ∈ l t, 0 ≤ x.flow ∧ x.flow < p.N.flows.length := fun x hx => atW_flow hi x (hst.mem.1 hx)
  have hbd : (l t).length ≤ 6000 := by
    rw [hst.len]
    have := hi.bd.2.2.1
    have h1 : (atW t s.way).length ≤ s.way.length := by unfold atW; rw [List.length_map]; exact List.length_filter_le _ _
    omega
  have hbyF : byF p.N.flows.length (l t) = byF p.N.flows.length (atW t s.way) := byF_congr hst
  obtain ⟨a0, a1, a2, a3, a4, a5, f4⟩ := hP.cells
  have hlk := hP.map.look ht0 (show t ≤ 100000 by omega)
  have hml := hP.map.lt
  obtain ⟨V, hV⟩ : ∃ V, H t = V := ⟨_, rfl⟩
  have HRW : Hid (RowC PK w p.base own t V (l t)) := by rw [← hV]; exact hP.fam t
  have HZ : Hid (offV V = 0) := by rw [← hV]; exact hP.z t ht0
  rw [hV] at hlk
  have HP := Lib.hid hP
  have HLB := Lib.hid (And.intro hbd hfl)
  have HBY := Lib.hid hbyF
  have HI := Lib.hid hi
  have HNV := Lib.hid hv
  have HT := Lib.hid (And.intro ht0 ht1)
  have HML := Lib.hid hml
  have HMM := Lib.hid hM
  have HVV := Lib.hid hV
  clear hst hfl hbd hbyF hP hi hv hml hM hV
  go_enter Try.func90, Try.ntmps90
  go_upto_region 1 with fail
  clear hlk
  go_upto_region 2 with (at_delete; refine del_pk _ rfl _ _ rfl p.mb nm H rfl HP.out.map t HT.out.1 (by omega) rfl ?_; intro w1 hm1 hg1)
  have HP1 := Lib.hid (HP.out.take t HT.out.1 hm1 hg1)
  have HB1 : Hid (Below p.B w w1) := ⟨hg1.os, hg1.tape, hg1.output, hg1.size, fun k hk => hg1.block k (by have := HML.out; have := HP.out.ord.b2; omega) (fun e => by injection e with e; have := HP.out.ord.b2; omega)⟩
  have HR1 : Hid (RowC PK w1 p.base own t V (l t)) := HRW.out.moved fun g h1 h2 h3 => ⟨hg1.block g h2 (fun e => by injection e with e; have := HP.out.ord.l2; omega), h3⟩
  obtain ⟨A, n, cap, hVV, hnc, hC⟩ := sort_come HR1.out HZ.out HLB.out.1 HLB.out.2
  have HC := Lib.hid hC
  clear hm1 hg1 hC a0 a1 a2 a3 a4 a5 f4
  subst hVV
  go_upto_region 3 with (go_at_call 112; refine HC.out.mono ?_; rintro e w2 ⟨rfl, hn, own2, hrl, hch⟩; have HNN := Lib.hid hn; clear hn)
  have HP2 : Hid (PostA p w2 nm own2 (updI H t nilS) (updI l t []) (gone t s)) := by
    rcases hch with ⟨rfl, rfl⟩ | ⟨d, h1, h2, h3, rfl, h5⟩
    · exact HP1.out
    · exact HP1.out.mark (updI_same _ _ _) h3 h1 h5
  have HB2 : Hid (Below p.B w w2) := by
    rcases hch with ⟨rfl, rfl⟩ | ⟨d, h1, h2, h3, rfl, h5⟩
    · exact HB1.out
    · exact HB1.out.trans ⟨h5.os, h5.tape, h5.output, h5.size, fun k hk => h5.block k (by have := HP1.out.size; have := HP1.out.ord.b1; have := HP1.out.ord.l1; omega) (fun e => by injection e with e; have := HP1.out.ord.b1; have := HP1.out.ord.l1; omega)⟩
  obtain ⟨L, hL⟩ : ∃ L, byF p.N.flows.length (l t) = L := ⟨_, rfl⟩
  have hn := HNN.out
  rw [hL] at hn hrl
  rw [hL] at HBY
  have HRL := Lib.hid hrl
  subst hn
  have HI0 : Hid (InvA p.N (t + 1) L (gone t s)) := by
    show InvA _ _ _ _
    rw [HBY.out]
    exact HI.out.start
  have hLL : L.length ≤ 6000 := HI0.out.bd.2.1
  clear hrl hch hL HC HNN HP1 HB1 HR1 HRW HP HLB HI
  go_wp2_with fail
  go_loopw [24] (fun vi wr => ∃ (k : Nat) (H : Int → Value) (l : Int → List MPkt) (ow : Nat → Int), vi = .int .i64 k ∧ k ≤ L.length ∧ Hid (PostA p wr nm ow H l ((L.take k).foldl (arr p.N t) (gone t s))) ∧ Hid (InvA p.N (t + 1) (L.drop k) ((L.take k).foldl (arr p.N t) (gone t s))) ∧ Hid (RowL wr p.base ow A L) ∧ Hid (Below p.B w wr)) (fun vi _ => L.length - (intOf vi).toNat)
  case atStart => exact ⟨0, _, _, own2, rfl, Nat.zero_le _, HP2, HI0, HRL, HB2⟩
  case round =>
    clear HP2 HI0 HRL HB2
    obtain ⟨k, H, l, ow, rfl, hk, HP, HI, HRL, HB⟩ := hrel
    rename World => wr
    by_cases hlt : k < L.length
    · obtain ⟨d, hA, hdb, hdo, hdO⟩ := HRL.out (by omega)
      subst hA
      obtain ⟨x, hx⟩ : ∃ x, L[k]? = some x := ⟨_, List.getElem?_eq_getElem hlt⟩
      have hdr : L.drop k = x :: L.drop (k + 1) := by
        rw [List.drop_eq_getElem_cons hlt]
        rw [List.getElem?_eq_getElem hlt] at hx
        rw [Option.some.inj hx]
      have htk : L.take (k + 1) = L.take k ++ [x] := by rw [List.take_add_one, hx]; rfl
      have hfo : (L.take (k + 1)).foldl (arr p.N t) (gone t s) = arr p.N t ((L.take k).foldl (arr p.N t) (gone t s)) x := by rw [htk, List.foldl_append]; rfl
      have HIx := HI.out
      rw [hdr] at HIx
      have HI1 := Lib.hid (HIx.arr HNV.out HT.out.1 HT.out.2)
      have hxo := HIx.now x (by simp)
      obtain ⟨x0, x1, x2, x3⟩ := hdO.at_ hx
      have hdl := hdO.lt
      obtain ⟨sk, hsk⟩ : ∃ sk, (L.take k).foldl (arr p.N t) (gone t s) = sk := ⟨_, rfl⟩
      rw [hsk] at HP HI1 hfo HIx
      obtain ⟨a0, a1, a2, a3, a4, a5, f4⟩ := HP.out.cells
      have HII := Lib.hid HIx
      have HFO := Lib.hid hfo
      obtain ⟨f, hf⟩ : ∃ f : Nat, x.flow = (f : Int) := ⟨x.flow.toNat, by have := hxo.flow0; omega⟩
      obtain ⟨q, hq⟩ : ∃ q : Nat, x.hop = (q : Int) := ⟨x.hop.toNat, by have := hxo.hop0; omega⟩
      have hfl : f < p.N.flows.length := by have := hxo.flow1; omega
      obtain ⟨fl, fb, fo, Ap, cp, hfe, hfA, hfB, _, _, y2, hpc, hpA⟩ := (HP.out.net.2.2.2).at_ hfl
      have hpath : pathOf p.N x = fl.path := by unfold pathOf; rw [hf, Int.toNat_natCast, flowAt_of hfe]
      have HPT := Lib.hid hpath
      have HXO := Lib.hid hxo
      have HDD := Lib.hid (And.intro hdb (And.intro hdo hdO))
      have HFH := Lib.hid (And.intro hf hq)
      rw [hf] at x0
      rw [hq] at x1
      rw [hfA] at a1
      obtain ⟨w5, hw5⟩ : ∃ w5, wr.alloc (.cells #[.int .i64 (f : Int), .int .i64 (q : Int), .int .i64 x.born, .int .i64 x.many] 117) = w5 := ⟨_, rfl⟩
      have HP5 : Hid (PostA p w5 nm ow H l sk) := by rw [← hw5]; exact HP.out.alloc _
      have HX5 : Hid (w5.heap[wr.heap.size]? = some (.cells #[.int .i64 (f : Int), .int .i64 (q : Int), .int .i64 x.born, .int .i64 x.many] 117 (0, 0))) := by rw [← hw5]; exact heap_alloc_new wr _
      have hb5 : Below wr.heap.size wr w5 := by rw [← hw5]; exact (Below.refl _ _).alloc (Nat.le_refl _) _
      have HB5 : Hid (Below p.B w w5) := HB.out.trans (hb5.mono (by have := HP.out.size; have := HP.out.ord.b1; have := HP.out.ord.l1; omega))
      have HO5 : Hid (OwnP w5 d L) := hdO.below hb5 hdl
      have HY : Hid (∀ W, Below w5.heap.size w5 W → (W.cell? ⟨p.pb, 0, none⟩ = some (.slice p.A1 p.N.gates.length p.c1) ∧ W.cell? ⟨p.pb, 1, none⟩ = some (.slice (some ⟨fb, fo, none⟩) p.N.flows.length p.c2) ∧ W.cell? ⟨p.pb, 2, none⟩ = some (.map (some p.mb)) ∧ W.cell? ⟨p.pb, 3, none⟩ = some (.slice (some ⟨p.lb, 0, none⟩) p.N.gates.length p.N.gates.length) ∧ W.cell? ⟨p.pb, 4, none⟩ = some (.int .i64 sk.left) ∧ W.cell? ⟨p.pb, 5, none⟩ = some (.slice (some ⟨p.ob, 0, none⟩) p.N.flows.length p.N.flows.length) ∧ W.frozen? ⟨p.pb, 4, none⟩ = false) ∧
          (W.cell? ⟨wr.heap.size, 0, none⟩ = some (.int .i64 (f : Int)) ∧ W.cell? ⟨wr.heap.size, 1, none⟩ = some (.int .i64 (q : Int)) ∧ W.cell? ⟨wr.heap.size, 2, none⟩ = some (.int .i64 x.born) ∧ W.cell? ⟨wr.heap.size, 3, none⟩ = some (.int .i64 x.many)) ∧ W.cell? ⟨fb, fo + f * 3 + 2, none⟩ = some (.slice Ap fl.path.length cp) ∧ IntsA W p.B Ap fl.path) := fun W hW => by
        have hc := (HP5.out.below hW).cells
        have hxw := (hW.block _ (lt_of_cells HX5.out)).trans HX5.out
        have hs5 := hb5.size
        have hps := HP.out.size
        have hpb := HP.out.ord.b1
        have hpl := HP.out.ord.l1
        rw [hfA] at hc
        exact ⟨hc, ⟨cell_of_row W _ 0 _ _ _ hxw, cell_of_row W _ 1 _ _ _ hxw, cell_of_row W _ 2 _ _ _ hxw, cell_of_row W _ 3 _ _ _ hxw⟩, (bcell (hb5.trans (hW.mono hs5)) _ _ (by omega)).trans y2, hpA.below ((hb5.trans (hW.mono hs5)).mono (B' := p.B) (by omega)) (Nat.le_refl _)⟩
      have hleft := HIx.bd.1
      have hleft2 := HIx.most
      obtain ⟨hm1, hm2, hbo1, hbo2⟩ : 1 ≤ x.many ∧ x.many ≤ 1000 ∧ 0 ≤ x.born ∧ x.born ≤ 64 := ⟨hxo.many1, hxo.many2, hxo.born0, hxo.born1⟩
      clear hdr htk hfo hsk HI HIx hxo hdO hf hq hpath hfe hfA hdb hdo HRL hpA hb5
      go_upto_region 6 with fail
      (try rw [hw5])
      clear hw5 a0 a1 a2 a3 a4 a5 f4 x0 x1 x2 x3 y2
      obtain ⟨⟨a0, a1, a2, a3, a4, a5, f4⟩, ⟨x0, x1, x2, x3⟩, y2, hpA⟩ := HY.out w5 (Below.refl _ _)
      go_quiet (fail)
      obtain ⟨w6, hw6⟩ : ∃ w6, w5.drewN nq = w6 := ⟨_, rfl⟩
      have hb6 : Below w5.heap.size w5 w6 := by rw [← hw6]; exact ⟨rfl, rfl, rfl, Nat.le_refl _, fun _ _ => rfl⟩
      have HP6 := Lib.hid (HP5.out.below hb6)
      have HB6 : Hid (Below p.B w w6) := HB5.out.trans (hb6.mono (by have := HP5.out.size; have := HP.out.ord.b1; have := HP.out.ord.l1; omega))
      have HO6 : Hid (OwnP w6 d L) := HO5.out.below hb6 (by have := HO5.out.lt; omega)
      have hs6 := hb6.size
      have HY6 := Lib.hid (fun W (hW : Below w6.heap.size w6 W) => HY.out W (hb6.trans (hW.mono hs6)))
      rw [hw6]
      clear hw6 hb6 a0 a1 a2 a3 a4 a5 f4 x0 x1 x2 x3 y2 hpA HY HP5 HB5 HO5 HX5
      obtain ⟨⟨a0, a1, a2, a3, a4, a5, f4⟩, ⟨x0, x1, x2, x3⟩, y2, hpA⟩ := HY6.out w6 (Below.refl _ _)
      by_cases hend : q = fl.path.length
      · have g1 : ((q : Int) == (fl.path.length : Int)) = true := by rw [beq_iff_eq]; omega
        go_upto_region 8 with fail
        refine wp_region_quiet_tail 9 (by kernel_rfl) (by kernel_rfl) ?_
        simp only [List.take_succ_cons, List.take_zero, List.drop_succ_cons, List.drop_zero]
        repeat (go_big_quiet_step (fail))
        refine wpQuiet_nil ?_
        go_upto_region 9 with fail
        have hs6' := HP6.out.size
        have hpo := HP6.out.ord
        have hpl := hpo.l1
        obtain ⟨w7, hw7⟩ : ∃ w7, (w6.setCell ⟨p.pb, 4, none⟩ (.int .i64 (sk.left - x.many))).drew = w7 := ⟨_, rfl⟩
        have HP7 : Hid (PostA p w7 nm ow H l (setLeft sk (sk.left - x.many))) := by rw [← hw7]; exact (HP6.out.setLeft _).drew
        have HB7 : Hid (Below p.B w w7) := by rw [← hw7]; exact (HB6.out.setCell (p := ⟨p.pb, 4, none⟩) hpo.b1 _).drew
        have HO7 : Hid (OwnP w7 d L) := by rw [← hw7]; exact (OwnF.far HO6.out (p := ⟨p.pb, 4, none⟩) (by show d ≠ p.pb; have := HDD.out.1; omega) _)
        have hxb : wr.heap.size ≠ p.pb := by have := HP.out.size; omega
        have z0 : w7.cell? ⟨wr.heap.size, 0, none⟩ = some (.int .i64 (f : Int)) := by rw [← hw7]; exact (cell?_far _ _ _ hxb).trans x0
        have z2 : w7.cell? ⟨wr.heap.size, 2, none⟩ = some (.int .i64 x.born) := by rw [← hw7]; exact (cell?_far _ _ _ hxb).trans x2
        (try rw [hw7])
        clear hw7 a0 a1 a2 a3 a4 a5 f4 x0 x1 x2 x3 y2 hpA HY6
        obtain ⟨_, _, _, _, _, a5, _⟩ := HP7.out.cells
        have b0 := HP7.out.outs.cell hfl
        have f0 := HP7.out.outs.frozen f
        have b0 : w7.cell? ⟨p.ob, f, none⟩ = some (.int .i64 (sk.out f)) := b0
        have HEND : Hid (arr p.N t sk x = setOut (setLeft sk (sk.left - x.many)) f (maxZ (sk.out f) (t - x.born))) := by
          show _ = _
          have e := arr_end (n := p.N) (t := t) (s := sk) (x := x) (by rw [HFH.out.2, HPT.out, hend])
          rw [HFH.out.1, Int.toNat_natCast] at e
          exact e
        have HP8 : Hid (PostA p (w7.setCell ⟨p.ob, f, none⟩ (.int .i64 (maxZ (sk.out f) (t - x.born)))).drew nm ow H l (arr p.N t sk x)) := by
          show PostA _ _ _ _ _ _ _
          rw [HEND.out]
          exact (HP7.out.setOut f _).drew
        have HB8 : Hid (Below p.B w (w7.setCell ⟨p.ob, f, none⟩ (.int .i64 (maxZ (sk.out f) (t - x.born)))).drew) := (HB7.out.setCell (p := ⟨p.ob, f, none⟩) hpo.b4 _).drew
        have HO8 : Hid (OwnP (w7.setCell ⟨p.ob, f, none⟩ (.int .i64 (maxZ (sk.out f) (t - x.born)))).drew d L) := OwnF.far HO7.out (p := ⟨p.ob, f, none⟩) (by show d ≠ p.ob; have := HDD.out.1; have := hpo.l4; omega) _
        refine wp_region_quiet_tail 20 (by kernel_rfl) (by kernel_rfl) ?_
        simp only [List.take_succ_cons, List.take_zero, List.drop_succ_cons, List.drop_zero]
        repeat (go_big_quiet_step (fail))
        refine wpQuiet_nil ?_
        go_wp2_with fail
        go_roundw
        case rel => exact ⟨k + 1, H, l, ow, by go_num, by omega, by rw [HFO.out]; exact HP8, by rw [HFO.out]; exact HI1, fun _ => ⟨d, rfl, HDD.out.1, HDD.out.2.1, HO8⟩, HB8⟩
        case measure => simp [intOf]; omega
      · have g1 : ((q : Int) == (fl.path.length : Int)) = false := by rw [beq_eq_false_iff_ne]; omega
        have hql : q < fl.path.length := by have := HXO.out.hop1; rw [HPT.out, HFH.out.2] at this; omega
        obtain ⟨pb2, po, rfl, hpb, y3⟩ := hpA.at_ hql
        obtain ⟨g, hg⟩ : ∃ g : Nat, fl.path.getD q 0 = (g : Int) ∧ g < p.N.gates.length ∧ hopG p.N x = g := by
          have h1 := hopG_lt HNV.out HXO.out (by rw [HPT.out, HFH.out.2]; omega)
          rw [HPT.out, HFH.out.2, Int.toNat_natCast] at h1
          exact ⟨_, h1.2, h1.1, rfl⟩
        have hgl := hg.2.1
        have HG := Lib.hid hg
        rw [hg.1] at y3
        clear hg
        go_upto_region 11 with fail
        have hs6' := HP6.out.size
        have hpo := HP6.out.ord
        have hpl := hpo.l1
        have hpl3 := hpo.l3
        have m0 : w6.cell? ⟨p.lb, g, none⟩ = some (H (labG g)) := HP6.out.lins.cell hgl
        have mf := HP6.out.lins.frozen g
        obtain ⟨XA, xc, hXA, hxc⟩ := (HP6.out.fam (labG g)).form
        have HXA := Lib.hid hXA
        rw [hXA] at m0
        have hgl6 := HII.out.bd.2.2.2 g hgl
        have HLK := Lib.hid (HP6.out.lk g)
        have hll : (l (labG g)).length ≤ 1000000 := by rw [HLK.out]; omega
        have HNB : Hid (∀ j, j < 4 → (w6.drew.alloc (.cells #[.int .i64 (f : Int), .int .i64 (q : Int), .int .i64 x.born, .int .i64 x.many] 117)).cell? ⟨w6.drew.heap.size, j, none⟩ = some (pkAt x j)) := fun j hj => by
          rw [newcell]
          unfold pkAt
          rw [HFH.out.1, HFH.out.2]
          match j, hj with
          | 0, _ => rfl
          | 1, _ => rfl
          | 2, _ => rfl
          | 3, _ => rfl
        have HFM : Hid (Fam PK (w6.drew.alloc (.cells #[.int .i64 (f : Int), .int .i64 (q : Int), .int .i64 x.born, .int .i64 x.many] 117)) p.base ow H l) := HP6.out.fam.drew.alloc _
        have hL0 : (w6.drew.alloc (.cells #[.int .i64 (f : Int), .int .i64 (q : Int), .int .i64 x.born, .int .i64 x.many] 117)).heap[p.lb]? = w6.heap[p.lb]? := Below.heap_alloc w6.drew _ _ (by show p.lb < w6.heap.size; omega)
        have HM0 : Hid (∀ W : World, W.heap[p.lb]? = (w6.drew.alloc (.cells #[.int .i64 (f : Int), .int .i64 (q : Int), .int .i64 x.born, .int .i64 x.many] 117)).heap[p.lb]? → W.cell? ⟨p.lb, g, none⟩ = some (.slice XA (l (labG g)).length xc) ∧ W.frozen? ⟨p.lb, g, none⟩ = false) := fun W hW =>
          ⟨(World.cell?_of_block (a := ⟨p.lb, g, none⟩) (hW.trans hL0)).trans m0, (World.frozen?_of_block (a := ⟨p.lb, g, none⟩) (hW.trans hL0)).trans mf⟩
        have hP0 : (w6.drew.alloc (.cells #[.int .i64 (f : Int), .int .i64 (q : Int), .int .i64 x.born, .int .i64 x.many] 117)).heap[p.pb]? = w6.heap[p.pb]? := Below.heap_alloc w6.drew _ _ (by show p.pb < w6.heap.size; omega)
        have HM3 : Hid (∀ W : World, W.heap[p.pb]? = (w6.drew.alloc (.cells #[.int .i64 (f : Int), .int .i64 (q : Int), .int .i64 x.born, .int .i64 x.many] 117)).heap[p.pb]? → W.cell? ⟨p.pb, 3, none⟩ = some (.slice (some ⟨p.lb, 0, none⟩) p.N.gates.length p.N.gates.length)) := fun W hW => (World.cell?_of_block (a := ⟨p.pb, 3, none⟩) (hW.trans hP0)).trans a3
        clear hP0
        have hlb6 : p.lb < w6.heap.size := by omega
        have hpb6 : p.pb < w6.heap.size := by omega
        clear hXA hL0 a0 a1 a2 a4 a5 f4 y2 y3
        go_region_law (first
          | (refine step_app_pk _ (by rfl) _ _ (by rfl) HFM.out (labG g) (by rw [HXA.out]; rfl) w6.drew.heap.size 1 (by rfl) x HNB.out hll (by simp; omega) ?_; intro gx ox cx w7 hap; have HAP := Lib.hid hap; obtain ⟨n0, nf⟩ := HM0.out w7 (hap.old (by simp; omega) hpl3); have n3 := HM3.out w7 (hap.old (by simp; omega) hpl); clear hap)
          | fail)
        all_goals
          obtain ⟨own7, H7, l7, hP8, hb8, hd8⟩ := come_line (HP6.out.drew.alloc _) HAP.out
          have HP8 : Hid (PostA p (w7.setCell ⟨p.lb, g, none⟩ (.slice (some ⟨gx, ox, none⟩) ((l (labG g)).length + 1) cx)) nm own7 H7 l7 (arr p.N t sk x)) := by
            show PostA _ _ _ _ _ _ _
            rw [arr_line (by rw [HPT.out, HFH.out.2]; omega), HG.out.2.2]
            exact hP8
          have HB8 : Hid (Below p.B w (w7.setCell ⟨p.lb, g, none⟩ (.slice (some ⟨gx, ox, none⟩) ((l (labG g)).length + 1) cx))) := (HB6.out.drew.alloc (by have := hpo.b1; show p.B ≤ w6.heap.size; omega) _).trans hb8
          have HO8 := Lib.hid (hd8 d L HDD.out.1 HDD.out.2.1 (OwnF.alloc HO6.out.drew _) (by have := netB_len HNV.out; omega))
          clear hP8 hb8 hd8 HAP
          go_wp2_with fail
          go_roundw
          case rel => exact ⟨k + 1, H7, l7, own7, by go_num, by omega, by rw [HFO.out]; exact HP8, by rw [HFO.out]; exact HI1, fun _ => ⟨d, rfl, HDD.out.1, HO8.out.1, HO8.out.2⟩, HB8⟩
          case measure => simp [intOf]; omega
    · obtain rfl : k = L.length := by omega
      have HP9 : Hid (PostA p wr nm ow H l (comeM p.N t s)) := by
        show PostA _ _ _ _ _ _ _
        have h := HP.out
        rw [List.take_length] at h
        unfold comeM
        rw [← HBY.out]
        exact h
      go_wp2_with fail
      go_end0
      exact ⟨rfl, ⟨ow, nm, H, l, HMM.out, HP9.out⟩, HB.out⟩
end
end Go.Proofs.Ytlbbhlkbhegegaa
