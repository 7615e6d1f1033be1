/- Walk: the reference's put. -/
import Derived.Test.YtonpemikodajdaaDoorMe
import Derived.Deep.RegionLaw
namespace Go.Proofs.YtonpemikodajdaaDoor
open Go.RowKit

/-- only block mb and the block of V may have turned -/
def KeepB (w : World) (mb : Nat) (V : Value) (w' : World) : Prop := ∀ b, b < w.heap.size → b ≠ mb → V.ownBlock ≠ some b → w'.heap[b]? = w.heap[b]?
def PutC (w : World) (B mb : Nat) (t : Int) (VC : Value) (ns : List Int) (VK : Value) (cs : List Int) (V : Value) (K : List (MCode × Value)) (w' : World) : Prop :=
  (∃ g cap, RS w' B mb t VC ns VK cs (.slice (some ⟨g, 0, none⟩) K.length cap) K ∧ (V.ownBlock = some g ∨ w.heap.size ≤ g)) ∧ KeepB w mb V w' ∧ Below B w w'
theorem set_far {g b : Nat} (hb : b ≠ g) : ∀ (vs : List Value) (o : Nat) (w : World), (w.setCells g o vs).heap[b]? = w.heap[b]?
  | [], _, _ => rfl
  | v :: r, o, w => (set_far hb r (o + 1) (w.setCell ⟨g, o, none⟩ v)).trans (Below.heap_setCell w ⟨g, o, none⟩ v b hb)
theorem two_far (w : World) (g o o' : Nat) (vs us : List Value) {b : Nat} (hb : b ≠ g) : ((w.setCells g o vs).setCells g o' us).drew.heap[b]? = w.heap[b]? := by
  have h1 := set_far hb us o' (w.setCells g o vs)
  have h2 := set_far hb vs o w
  exact h1.trans h2
theorem RS.swap {w : World} {B mb : Nat} {t : Int} {VC : Value} {ns : List Int} {VK : Value} {cs : List Int} {g n cap : Nat} {K : List (MCode × Value)} (h : RS w B mb t VC ns VK cs (.slice (some ⟨g, 0, none⟩) n cap) K) {i j : Nat} (hi : i < K.length) (hj : j < K.length) {p q : MCode × Value} (hp : p ∈ K) (hq : q ∈ K) :
    RS ((w.setCells g (i * 6) (cells6 q)).setCells g (j * 6) (cells6 p)) B mb t VC ns VK cs (.slice (some ⟨g, 0, none⟩) n cap) ((K.set i q).set j p) := by
  have h1 := h.setK i hi q (h.frames q hq)
  have hn : n = K.length := by
    rcases h.row.2 with ⟨e, _⟩ | ⟨g', cap', cur, e, _⟩
    · cases e
    · injection e
  have g1 := (own_setCells (cells6 q) (i * 6) w _ (show w.ownsRow B 46 6 (.slice (some ⟨g, 0, none⟩) n cap) n (K.flatMap cells6) by have := h.row; unfold RowC at this; rwa [← hn] at this)).2
  exact h1.setK j (by simpa using hj) p ((h.frames p hp).keep g1.size (fun b hb hu => g1.block b hb (fun e => hu.2.2.2.1 (by injection e with e; rw [e]; rfl))) (fun _ _ hu => hu))
theorem swap_list {K : List (MCode × Value)} {j : Nat} {p q : MCode × Value} (hj : 0 < j) (hq : K[j - 1]? = some q) : (((K.take j ++ p :: K.drop j).set j q).set (j - 1) p) = K.take (j - 1) ++ p :: K.drop (j - 1) := by
  have hl : j - 1 < K.length := (List.getElem?_eq_some_iff.1 hq).1
  have hqe : K[j - 1] = q := (List.getElem?_eq_some_iff.1 hq).2
  have e1 : K.take j = K.take (j - 1) ++ [q] := by
    have := List.take_succ_eq_append_getElem hl
    rw [show j - 1 + 1 = j by omega, hqe] at this
    exact this
  have e2 : K.drop (j - 1) = q :: K.drop j := by
    have := List.drop_eq_getElem_cons hl
    rw [show j - 1 + 1 = j by omega, hqe] at this
    exact this
  have hL : (K.take (j - 1)).length = j - 1 := by rw [List.length_take]; omega
  rw [e1, e2, List.append_assoc, List.set_append_right _ _ (by rw [hL]; omega), hL, show j - (j - 1) = 1 by omega]
  rw [List.set_append_right _ _ (by rw [hL]; omega), hL, Nat.sub_self]
  rfl
theorem step_app_code {ops : Array Oper} {o : Oper} {a : Act} {Q' : Act → World → Prop} {Q : Exit → Act → World → Prop} {E : Prop} (w : World) (hg : o.guard = none) (s x : Operand) (ho : o.op = .call { callee := .builtin .append, args := #[s, x], argTypes := #[25, 25] }) (base : Nat) (V : Value) (K : List (MCode × Value))
    (hs : a.eval s = V) (hown : RowC w base V K) (nb : Nat) (hx : a.eval x = .slice (some ⟨nb, 0, none⟩) 1 1) (p : MCode × Value) (hp : p.2.oneCell' = true) (hnb : w.heap[nb]? = some (.cells (cells6 p).toArray 46 (0, 0))) (hlen : K.length ≤ 1000000) (hbase : base ≤ w.heap.size) (H : Nat) (hH : w.heap.size = H)
    (hK : ∀ g cap w', RowC w' base (.slice (some ⟨g, 0, none⟩) (K.length + 1) cap) (K ++ [p]) → w.grownBy w' V.ownBlock → (V.ownBlock = some g ∨ g = H) → g < w'.heap.size → Q' (a.put o.dst (.slice (some ⟨g, 0, none⟩) (K.length + 1) cap)) w') :
    if Region.wanted o (yielded ops a.tmps) = true then Oper.wp Tryd.prog o a w Q' Q else E := by
  obtain ⟨i0, hi, hz0, hz1, hz2⟩ := info_parts info_code
  refine step_append_lies w hg s x 25 ho base 46 i0 _ 6 64 under_codes hi hz0 hz1 hz2 rfl (by decide) V K.length _ hs hown ⟨nb, 0, none⟩ 1 1 (cells6 p) hx rfl ?_ ?_ (by omega) (by unfold maxLen; omega) (by omega) hbase H hH (fun g cap w' h1 h2 h3 h4 => hK g cap w' ?_ h2 h3 h4)
  · intro j u hj
    rw [add_none0, Nat.zero_add, row_cell hnb]
    simpa using hj
  · intro u hu
    unfold cells6 at hu
    simp only [List.mem_cons, List.not_mem_nil, or_false] at hu
    rcases hu with rfl | rfl | rfl | rfl | rfl | rfl
    all_goals first | rfl | exact hp
  · unfold RowC
    rw [List.flatMap_append, List.length_append]
    simpa using h1
set_option maxRecDepth 100000 in
set_option maxHeartbeats 4000000 in
theorem put_any {w : World} {B mb : Nat} {t : Int} {VC : Value} {ns : List Int} {VK : Value} {cs : List Int} {V : Value} {K : List (MCode × Value)} (h : RS w B mb t VC ns VK cs V K) (hBw : B ≤ w.heap.size) (hK : K.length ≤ 1000)
    (c : MCode) (Af : Option Addr) (cf : Nat) (hp : FrameU w (RU B mb VC VK V) (c, .slice Af c.frame.length cf)) {ix : Nat} (hf : FindP (K.map Prod.fst) c.mon ix false) (ha : AscC (K.map Prod.fst)) :
    Calls Tryd.prog 116 #[.pointer (some ⟨mb, 0, none⟩), .agg #[.int .i64 c.mon, .int .i64 c.first, .int .i64 c.last, .int .i64 c.count, .slice Af c.frame.length cf, .bool c.active]] w fun e w' => e = .returned (.tuple #[]) ∧ PutC w B mb t VC ns VK cs V (K.take ix ++ (c, .slice Af c.frame.length cf) :: K.drop ix) w' := by
  obtain ⟨A0, cap0, rfl, hcap⟩ := h.row.lenV
  obtain ⟨w1, hw1⟩ : ∃ w1, w1 = w.alloc (.cells #[.int .i64 c.mon, .int .i64 c.first, .int .i64 c.last, .int .i64 c.count, .slice Af c.frame.length cf, .bool c.active] 46) := ⟨_, rfl⟩
  have hb1 : Below w.heap.size w w1 := by rw [hw1]; exact (Below.refl _ _).alloc (Nat.le_refl _) _
  have hs1 : w1.heap.size = w.heap.size + 1 := by rw [hw1]; simp
  have hh1 : w1.heap[w.heap.size]? = some (.cells #[.int .i64 c.mon, .int .i64 c.first, .int .i64 c.last, .int .i64 c.count, .slice Af c.frame.length cf, .bool c.active] 46 (0, 0)) := by rw [hw1]; exact heap_alloc_new w _
  have H1 := Lib.hid (h.below hb1 (Nat.le_refl _))
  have hp1 : FrameU w1 (RU B mb VC VK (.slice A0 K.length cap0)) (c, .slice Af c.frame.length cf) := hp.keep hb1.size (fun b hb _ => hb1.block b hb) (fun _ _ hu => hu)
  have HP1 := Lib.hid hp1
  have hbs := fun w => run_bslice w c.mon c.first c.last c.count Af c.frame.length cf c.active
  have q0 := row_cell hh1 0
  have q1 := row_cell hh1 1
  have q2 := row_cell hh1 2
  have q3 := row_cell hh1 3
  have q4 := row_cell hh1 4
  have q5 := row_cell hh1 5
  have g3 := H1.out.g 3
  have gf := H1.out.fz 3
  simp only [List.getElem?_toArray, List.getElem?_cons_succ, List.getElem?_cons_zero] at g3 q0 q1 q2 q3 q4 q5
  have hmlt := H1.out.lt
  have hwf := hw1.symm
  have hB1 : B ≤ w1.heap.size := by omega
  have HS1 := Lib.hid hs1
  have HF := Lib.hid hf
  have HA := Lib.hid ha
  have HB1 := Lib.hid hb1
  have HH1 := Lib.hid hh1
  clear h hp hp1 hf ha hb1 hw1 hh1 hs1
  go_enter Tryd.func116, Tryd.ntmps116
  go_upto_region 1 with fail
  have hx0 : RS (w1.drew.alloc (.cells #[.int .i64 c.mon, .int .i64 c.first, .int .i64 c.last, .int .i64 c.count, .slice Af c.frame.length cf, .bool c.active] 46)) B mb t VC ns VK cs (.slice A0 K.length cap0) K := (H1.out.below ((Below.refl w1.heap.size w1).drew) (Nat.le_refl _)).below ((Below.refl _ _).alloc (Nat.le_refl _) _) (Nat.le_refl _)
  have hfx0 : FrameU (w1.drew.alloc (.cells #[.int .i64 c.mon, .int .i64 c.first, .int .i64 c.last, .int .i64 c.count, .slice Af c.frame.length cf, .bool c.active] 46)) (RU B mb VC VK (.slice A0 K.length cap0)) (c, .slice Af c.frame.length cf) := HP1.out.keep (by show w1.heap.size ≤ _; simp) (fun b hb _ => Below.heap_alloc w1.drew _ b hb) (fun _ _ hu => hu)
  have HX0 := Lib.hid hx0
  have HFX0 := Lib.hid hfx0
  clear hx0 hfx0
  go_cut [12] (fun _ wx => PutC w B mb t VC ns VK cs (.slice A0 K.length cap0) (K ++ [(c, .slice Af c.frame.length cf)]) wx)
  case first =>
    go_region_law ((refine step_app_code _ (by rfl) _ _ (by rfl) B _ K (by rfl) HX0.out.row w1.heap.size (by rfl) (c, .slice Af c.frame.length cf) (by rfl) (heap_alloc_new _ _) (Nat.le_trans hK (by decide)) (Nat.le_trans HX0.out.bm (Nat.le_of_lt HX0.out.lt)) _ (by rfl) ?_; intro g7 q7 w7 hO7 hg7 hat7 hlt7; have c7 := (World.cell?_of_block (a := ⟨mb, 3, none⟩) (hg7.block mb HX0.out.lt (fun e => HX0.out.nv e.symm))).trans (HX0.out.g 3); have f7 := (World.frozen?_of_block (a := ⟨mb, 3, none⟩) (hg7.block mb HX0.out.lt (fun e => HX0.out.nv e.symm))).trans (HX0.out.fz 3); have HO7 := Lib.hid hO7; have HG7 := Lib.hid hg7; have HAT := Lib.hid hat7; clear hO7 hg7 hat7; simp only [List.getElem?_toArray, List.getElem?_cons_succ, List.getElem?_cons_zero] at c7))
    all_goals
      go_wp2_with fail
      go_meet
      refine ⟨⟨g7, q7, ?_, ?_⟩, fun b hb h1 h2 => ?_, ?_⟩
      · rw [List.length_append]
        exact HX0.out.putRow HG7.out HO7.out (by rcases HAT.out with e | e; exact .inl e; exact .inr (Nat.le_of_eq e.symm)) (fun q hq => by
          rcases List.mem_append.1 hq with hq | hq
          · exact .inl hq
          · rw [List.mem_singleton] at hq; subst hq; exact .inr HFX0.out)
      · rcases HAT.out with e | e
        · exact .inl e
        · have e2 : w1.heap.size ≤ (w1.drew.alloc (.cells #[.int .i64 c.mon, .int .i64 c.first, .int .i64 c.last, .int .i64 c.count, .slice Af c.frame.length cf, .bool c.active] 46)).heap.size := by show w1.heap.size ≤ _; simp
          exact .inr (Nat.le_trans (Nat.le_trans HB1.out.size e2) (Nat.le_of_eq e.symm))
      · have e2 : w1.heap.size ≤ (w1.drew.alloc (.cells #[.int .i64 c.mon, .int .i64 c.first, .int .i64 c.last, .int .i64 c.count, .slice Af c.frame.length cf, .bool c.active] 46)).heap.size := (by show w1.heap.size ≤ _; simp)
        have hbl : b < w1.heap.size := Nat.lt_of_lt_of_le hb HB1.out.size
        exact (Below.heap_setCell w7 ⟨mb, 3, none⟩ _ b h1).trans ((HG7.out.block b (Nat.lt_of_lt_of_le hbl e2) (fun e => h2 e.symm)).trans ((Below.heap_alloc w1.drew _ b hbl).trans (HB1.out.block b hb)))
      · have hvl := own_block_lt HX0.out.row
        exact ((HB1.out.mono hBw).trans ((((Below.refl w1.heap.size w1).drew.alloc (Nat.le_refl _) _).mono hB1)) |>.grown HG7.out (by simp; omega) (fun k hk => (hvl k hk).1)).setCell HX0.out.bm _
  case rest =>
    obtain ⟨⟨g, cap, hR, hat⟩, hkb, hBc⟩ := hcut
    have HAT := Lib.hid hat
    have HKB := Lib.hid hkb
    have HR := Lib.hid hR
    clear H1 HP1 HX0 HFX0 HB1 HH1 g3 gf q0 q1 q2 q3 q4 q5 hbs hmlt hwf hR hat hkb
    obtain ⟨p, hp⟩ : ∃ p : MCode × Value, p = (c, .slice Af c.frame.length cf) := ⟨_, rfl⟩
    rw [← hp] at HR
    have HP := Lib.hid hp
    have hpc : p.1 = c := by rw [hp]
    have HPC := Lib.hid hpc
    have hlen1 : (K ++ [p]).length = K.length + 1 := by simp
    have g3 := HR.out.g 3
    simp only [List.getElem?_toArray, List.getElem?_cons_succ, List.getElem?_cons_zero] at g3
    rw [List.length_append, List.length_singleton] at g3
    clear hp hpc hlen1
    have hixl : ix ≤ K.length := by have := HF.out.1; simpa using this
    go_wp2_with fail
    clear g3
    go_loopw [4] (fun vi wr => ∃ j : Nat, ix ≤ j ∧ j ≤ K.length ∧ vi = .int .i64 j ∧ Hid (RS wr B mb t VC ns VK cs (.slice (some ⟨g, 0, none⟩) (K.length + 1) cap) (K.take j ++ p :: K.drop j)) ∧ Hid (KeepB w mb (.slice A0 K.length cap0) wr) ∧ Below B w wr) (fun vi _ => (intOf vi).toNat)
    case atStart => exact ⟨K.length, hixl, Nat.le_refl _, (by go_num), (by have := HR.out; rw [List.length_append, List.length_singleton] at this; rw [List.take_length, List.drop_length]; exact this), HKB, hBc⟩
    case round =>
      clear HR hBc HKB
      obtain ⟨j, hij, hjK, rfl, HR, HKB, hbw⟩ := hrel
      have g3 := HR.out.g 3
      simp only [List.getElem?_toArray, List.getElem?_cons_succ, List.getElem?_cons_zero] at g3
      have hpj : (K.take j ++ p :: K.drop j)[j]? = some p := by
        rw [List.getElem?_append_right (by rw [List.length_take]; omega), List.length_take, Nat.min_eq_left hjK, Nat.sub_self]; rfl
      have HPJ := Lib.hid hpj
      clear hpj
      by_cases h0 : 0 < j
      · obtain ⟨q, hq⟩ : ∃ q, K[j - 1]? = some q := ⟨K[j - 1], List.getElem?_eq_getElem (by omega)⟩
        have hqj : (K.take j ++ p :: K.drop j)[j - 1]? = some q := by
          rw [List.getElem?_append_left (by rw [List.length_take]; omega), List.getElem?_take, if_pos (by omega)]; exact hq
        have hqm : ((K.map Prod.fst).getD (j - 1) dCode) = q.1 := by rw [List.getD_eq_getElem?_getD, List.getElem?_map, hq]; rfl
        have c0 := (HR.out.codeCell HPJ.out 0 (by decide)).1
        have d0 := (HR.out.codeCell hqj 0 (by decide)).1
        rw [show (cells6 p)[0]? = some (.int .i64 p.1.mon) from rfl, Nat.add_zero] at c0
        rw [show (cells6 q)[0]? = some (.int .i64 q.1.mon) from rfl, Nat.add_zero] at d0
        have hj0 : decide ((0 : Int) < (j : Int)) = true := decide_eq_true (by omega)
        by_cases hlt : ix < j
        · have hlt' : decide (p.1.mon < q.1.mon) = true := by
            refine decide_eq_true ?_
            have h1 := HF.out.2.2.1 (j - 1) (by omega) (by rw [List.length_map]; omega)
            have h2 := FindP.none HA.out HF.out (k := j - 1) (by rw [List.length_map]; omega)
            rw [hqm] at h1 h2
            rw [HPC.out]
            omega
          have HQ := Lib.hid hq
          have HQJ := Lib.hid hqj
          clear hq hqj hqm
          go_wp2_with fail
          go_quiet (fail)
          go_wp2_with fail
          have hRW := HR.out.below (w' := wr.drewN nq) (B' := wr.heap.size) ⟨rfl, rfl, rfl, Nat.le_refl _, fun _ _ => rfl⟩ (Nat.le_refl _)
          have hBW : Below B w (wr.drewN nq) := ⟨hbw.os, hbw.tape, hbw.output, hbw.size, hbw.block⟩
          clear c0 d0 g3 hj0 hlt' HR
          have HKB : Hid (KeepB w mb (.slice A0 K.length cap0) (wr.drewN nq)) := HKB.out
          clear hbw
          generalize wr.drewN nq = W at *
          have g3 := hRW.g 3
          simp only [List.getElem?_toArray, List.getElem?_cons_succ, List.getElem?_cons_zero] at g3
          obtain ⟨c0, cf0⟩ := hRW.codeCell HPJ.out 0 (by decide)
          obtain ⟨d0, df0⟩ := hRW.codeCell HQJ.out 0 (by decide)
          obtain ⟨c1, cf1⟩ := hRW.codeCell HPJ.out 1 (by decide)
          obtain ⟨d1, df1⟩ := hRW.codeCell HQJ.out 1 (by decide)
          obtain ⟨c2, cf2⟩ := hRW.codeCell HPJ.out 2 (by decide)
          obtain ⟨d2, df2⟩ := hRW.codeCell HQJ.out 2 (by decide)
          obtain ⟨c3, cf3⟩ := hRW.codeCell HPJ.out 3 (by decide)
          obtain ⟨d3, df3⟩ := hRW.codeCell HQJ.out 3 (by decide)
          obtain ⟨c4, cf4⟩ := hRW.codeCell HPJ.out 4 (by decide)
          obtain ⟨d4, df4⟩ := hRW.codeCell HQJ.out 4 (by decide)
          obtain ⟨c5, cf5⟩ := hRW.codeCell HPJ.out 5 (by decide)
          obtain ⟨d5, df5⟩ := hRW.codeCell HQJ.out 5 (by decide)
          simp only [cells6, List.getElem?_cons_succ, List.getElem?_cons_zero, Nat.add_zero] at c0 c1 c2 c3 c4 c5 d0 d1 d2 d3 d4 d5 cf0 df0
          obtain ⟨Aq, cq, hq2, _⟩ := hRW.frames q (List.mem_of_getElem? HQJ.out)
          have hp2 : p.2 = .slice Af c.frame.length cf := by rw [HP.out]
          rw [hq2] at d4
          rw [hp2] at c4
          have HQ2 := Lib.hid hq2
          have HP2 := Lib.hid hp2
          have HRW := Lib.hid hRW
          clear hRW hq2 hp2
          go_region
          obtain ⟨X, hX⟩ : ∃ X, X = ((((((((((((W.setCell ⟨g, j * 6, none⟩ (.int .i64 q.1.mon)).setCell ⟨g, j * 6 + 1, none⟩ (.int .i64 q.1.first)).setCell ⟨g, j * 6 + 2, none⟩ (.int .i64 q.1.last)).setCell ⟨g, j * 6 + 3, none⟩ (.int .i64 q.1.count)).setCell ⟨g, j * 6 + 4, none⟩ (.slice Aq q.1.frame.length cq)).setCell ⟨g, j * 6 + 5, none⟩ (.bool q.1.active)).setCell ⟨g, (j - 1) * 6, none⟩ (.int .i64 p.1.mon)).setCell ⟨g, (j - 1) * 6 + 1, none⟩ (.int .i64 p.1.first)).setCell ⟨g, (j - 1) * 6 + 2, none⟩ (.int .i64 p.1.last)).setCell ⟨g, (j - 1) * 6 + 3, none⟩ (.int .i64 p.1.count)).setCell ⟨g, (j - 1) * 6 + 4, none⟩ (.slice Af c.frame.length cf)).setCell ⟨g, (j - 1) * 6 + 5, none⟩ (.bool p.1.active)).drew := ⟨_, rfl⟩
          rw [← hX]
          have hX2 : X = ((W.setCells g (j * 6) (cells6 q)).setCells g ((j - 1) * 6) (cells6 p)).drew := by rw [hX]; unfold cells6; rw [HQ2.out, HP2.out]; rfl
          have hlK : (K.take j ++ p :: K.drop j).length = K.length + 1 := by rw [List.length_append, List.length_cons, List.length_take, List.length_drop]; omega
          have hRS := HRW.out.swap (i := j) (j := j - 1) (by rw [hlK]; omega) (by rw [hlK]; omega) (List.mem_of_getElem? HPJ.out) (List.mem_of_getElem? HQJ.out)
          rw [swap_list h0 HQ.out] at hRS
          have hgB : B ≤ g := (own_block_lt HRW.out.row g rfl).1
          have hBX : Below B W X := by
            rw [hX]
            exact (((((((((((((Below.refl B W).setCell (p := ⟨g, j * 6, none⟩) hgB _).setCell (p := ⟨g, j * 6 + 1, none⟩) hgB _).setCell (p := ⟨g, j * 6 + 2, none⟩) hgB _).setCell (p := ⟨g, j * 6 + 3, none⟩) hgB _).setCell (p := ⟨g, j * 6 + 4, none⟩) hgB _).setCell (p := ⟨g, j * 6 + 5, none⟩) hgB _).setCell (p := ⟨g, (j - 1) * 6, none⟩) hgB _).setCell (p := ⟨g, (j - 1) * 6 + 1, none⟩) hgB _).setCell (p := ⟨g, (j - 1) * 6 + 2, none⟩) hgB _).setCell (p := ⟨g, (j - 1) * 6 + 3, none⟩) hgB _).setCell (p := ⟨g, (j - 1) * 6 + 4, none⟩) hgB _).setCell (p := ⟨g, (j - 1) * 6 + 5, none⟩) hgB _).drew
          have hRX : RS X B mb t VC ns VK cs (.slice (some ⟨g, 0, none⟩) (K.length + 1) cap) (K.take (j - 1) ++ p :: K.drop (j - 1)) := by
            rw [hX2]
            exact hRS.below (Below.refl _ _).drew (Nat.le_refl _)
          have HRX := Lib.hid hRX
          have HKX : Hid (KeepB w mb (.slice A0 K.length cap0) X) := fun b hb h1 h2 => by
            have hgb : b ≠ g := fun e => by
              rcases HAT.out with e2 | e2
              · exact h2 (by rw [e2, e])
              · omega
            rw [hX2]
            exact (two_far W g (j * 6) ((j - 1) * 6) _ _ hgb).trans (HKB.out b hb h1 h2)
          have hBX2 := hBW.trans hBX
          clear hRS hX hX2 hRX hBX
          clear c0 c1 c2 c3 c4 c5 d0 d1 d2 d3 d4 d5 cf0 cf1 cf2 cf3 cf4 cf5 df0 df1 df2 df3 df4 df5 g3
          go_wp2_with fail
          go_roundw
          case rel => exact ⟨j - 1, by omega, by omega, by go_num, HRX, HKX, hBX2⟩
          case measure => simp [intOf]; omega
        · obtain rfl : j = ix := by omega
          have hlt' : decide (p.1.mon < q.1.mon) = false := by
            refine decide_eq_false ?_
            have h1 := HF.out.2.1 (j - 1) (by omega)
            rw [hqm] at h1
            rw [HPC.out]
            omega
          clear hq hqj hqm
          go_wp2_with fail
          go_quiet (fail)
          go_wp2_with fail
          have hRW := HR.out.below (w' := wr.drewN nq) (B' := wr.heap.size) ⟨rfl, rfl, rfl, Nat.le_refl _, fun _ _ => rfl⟩ (Nat.le_refl _)
          have hBW : Below B w (wr.drewN nq) := ⟨hbw.os, hbw.tape, hbw.output, hbw.size, hbw.block⟩
          rw [HP.out] at hRW
          go_end0
          refine ⟨rfl, ⟨g, cap, ?_, HAT.out⟩, HKB.out, hBW⟩
          rw [show (K.take j ++ (c, Value.slice Af c.frame.length cf) :: K.drop j).length = K.length + 1 by rw [List.length_append, List.length_cons, List.length_take, List.length_drop]; omega]
          exact hRW
      · obtain rfl : j = 0 := by omega
        obtain rfl : ix = 0 := by omega
        go_wp2_with fail
        go_quiet (fail)
        go_wp2_with fail
        have hRW := HR.out.below (w' := wr.drewN nq) (B' := wr.heap.size) ⟨rfl, rfl, rfl, Nat.le_refl _, fun _ _ => rfl⟩ (Nat.le_refl _)
        have hBW : Below B w (wr.drewN nq) := ⟨hbw.os, hbw.tape, hbw.output, hbw.size, hbw.block⟩
        rw [HP.out] at hRW
        go_end0
        refine ⟨rfl, ⟨g, cap, ?_, HAT.out⟩, HKB.out, hBW⟩
        rw [show (K.take 0 ++ (c, Value.slice Af c.frame.length cf) :: K.drop 0).length = K.length + 1 by rw [List.length_append, List.length_cons, List.length_take, List.length_drop]; omega]
        exact hRW
end Go.Proofs.YtonpemikodajdaaDoor
