/- Walks: ignitionlaw04.BusMore. -/
import Derived.Test.YtlbbhlkbhegegaaDelMo
import Derived.Test.YtlbbhlkbhegegaaFw
import Derived.Test.YtlbbhlkbhegegaaR8
import Derived.Deep.DeepCutAuto
namespace Go.Proofs.Ytlbbhlkbhegegaa
open Go.RowKit

theorem newfrozen (w : World) (cs : Array Value) (t k : Nat) : (w.alloc (.cells cs t)).drew.frozen? ⟨w.heap.size, k, none⟩ = false := by
  have h : (w.alloc (.cells cs t)).heap[w.heap.size]? = some (.cells cs t (0, 0)) := heap_alloc_new w _
  show (w.alloc (.cells cs t)).frozen? _ = false
  unfold World.frozen?
  simp only [h]
  simp
set_option maxRecDepth 100000 in
set_option maxHeartbeats 4000000 in
theorem busMore_any (A1 A2 : Option Addr) (c1 c2 : Nat) (n : MNet) (cN cA cB cC : Int) (w : World) (h : NetA w w.heap.size A1 A2 n) :
    Calls Try.prog 5 #[.agg #[.slice A1 n.gates.length c1, .slice A2 n.flows.length c2], .agg #[.int .i64 cN, .int .i64 cA, .int .i64 cB, .int .i64 cC]] w fun e w' => e = .returned (.bool true) ∧ Below w.heap.size w w' := by
  have hlen := h.2.1
  unfold maxLen at hlen
  have hE0 := NetEnv.make (c1 := c1) (c2 := c2) (t := 25) h
  clear h
  have hE := hE0.alloc (.cells #[.int .i64 cN, .int .i64 cA, .int .i64 cB, .int .i64 cC] 36)
  have hs0 : (w.alloc (.cells #[.slice A1 n.gates.length c1, .slice A2 n.flows.length c2] 25)).heap.size = w.heap.size + 1 := by simp
  have n0 := newcell (w.alloc (.cells #[.slice A1 n.gates.length c1, .slice A2 n.flows.length c2] 25)) #[.int .i64 cN, .int .i64 cA, .int .i64 cB, .int .i64 cC] 36 0
  have n1 := newcell (w.alloc (.cells #[.slice A1 n.gates.length c1, .slice A2 n.flows.length c2] 25)) #[.int .i64 cN, .int .i64 cA, .int .i64 cB, .int .i64 cC] 36 1
  have n2 := newcell (w.alloc (.cells #[.slice A1 n.gates.length c1, .slice A2 n.flows.length c2] 25)) #[.int .i64 cN, .int .i64 cA, .int .i64 cB, .int .i64 cC] 36 2
  simp only [List.getElem?_toArray, List.getElem?_cons_succ, List.getElem?_cons_zero] at n0 n1 n2
  rw [hs0] at n0 n1 n2
  have hs2 : w.heap.size + 1 < ((w.alloc (.cells #[.slice A1 n.gates.length c1, .slice A2 n.flows.length c2] 25)).alloc (.cells #[.int .i64 cN, .int .i64 cA, .int .i64 cB, .int .i64 cC] 36)).heap.size := by simp
  obtain ⟨⟨x, a, c⟩, hp⟩ : ∃ p, delOut n = p := ⟨_, rfl⟩
  have HP := Lib.hid hp
  have HD : Hid (∀ w1, NetEnv w w.heap.size A1 c1 A2 c2 n w1 → Calls Try.prog 19 #[.agg #[.slice A1 n.gates.length c1, .slice A2 n.flows.length c2]] w1 (RetD w1 (x, a, c))) := fun w1 h1 => delays_out _ _ _ _ n w1 (h1.net.more (Nat.le_of_lt h1.size)) HP.out
  clear hp hE0 hs0
  go_enter Try.func5, Try.ntmps5
  go_wp2_with fail
  generalize hW : World.alloc _ (Obj.cells #[.int .i64 cN, .int .i64 cA, .int .i64 cB, .int .i64 cC] 36) = w2 at *
  clear hW
  refine (HD.out _ hE).mono ?_
  rintro e w3 ⟨hb3, X, xk, D, dk, rfl, hX, hDD⟩
  have hE3 := hE.below hb3 hE.size
  have m0 := (bcell hb3 (w.heap.size + 1) 0 hs2).trans n0
  have m1 := (bcell hb3 (w.heap.size + 1) 1 hs2).trans n1
  have m2 := (bcell hb3 (w.heap.size + 1) 2 hs2).trans n2
  have hs3 := Nat.lt_of_lt_of_le hs2 hb3.size
  clear hE hb3 n0 n1 n2 hs2 HD
  have q0 := hE3.c0
  have q1 := hE3.c1
  by_cases hc : c = 0
  rotate_left
  · have hc0 : (c == 0) = false := by simpa using hc
    have hc1 : (c != 0) = true := by simpa using hc
    clear hc m0 m1 m2
    have hb3 := hE3.old
    go_wp2_with fail
    refine (works_any w3).mono ?_
    rintro e w4 ⟨rfl, hb4⟩
    have hb5 := hb3.trans (hb4.mono (by omega))
    clear hb3 hb4
    go_wp2_with fail
    go_ret
    exact ⟨rfl, hb5⟩
  subst hc
  by_cases hF : n.flows.length = 0
  · have hF0 : ((n.flows.length : Int) == 0) = true := by rw [beq_iff_eq]; omega
    have hb3 := hE3.old
    clear hF m0 m1 m2
    go_wp2_with fail
    refine (works_any w3).mono ?_
    rintro e w4 ⟨rfl, hb4⟩
    have hb5 := hb3.trans (hb4.mono (by omega))
    clear hb3 hb4
    go_wp2_with fail
    go_ret
    exact ⟨rfl, hb5⟩
  have hF0 : ((n.flows.length : Int) == 0) = false := by rw [beq_eq_false_iff_ne]; omega
  have hF1 : 0 < n.flows.length := by omega
  obtain ⟨hv, l, W, D', hl, hdel, hxe, hae⟩ := delOut_ok HP.out
  have hF40 := (netB_len hv).2
  have HV := Lib.hid hv
  have HXE := Lib.hid hxe
  have HAE := Lib.hid hae
  clear hv hl hdel hxe hae hF
  obtain ⟨pv, hSl, hpv⟩ := hE3.net.2.2.2
  have HPV := Lib.hid hpv
  clear hpv
  have HSL : Hid (∀ w1, Below w3.heap.size w3 w1 → SlA w1 w1.heap.size 3 A2 n.flows.length (flowCell n.flows pv)) := fun w1 hb => (hSl.below (hb.mono (B' := w.heap.size) (by omega)) (Nat.le_refl _)).more (by have := hb.size; omega)
  have HK : Hid (∀ w1, Below w3.heap.size w3 w1 → w1.cell? ⟨w.heap.size, 0, none⟩ = some (.slice A1 n.gates.length c1) ∧ w1.cell? ⟨w.heap.size, 1, none⟩ = some (.slice A2 n.flows.length c2)) := fun w1 hb => ⟨(bcell hb _ _ (by omega)).trans q0, (bcell hb _ _ (by omega)).trans q1⟩
  have hb33 : Below w3.heap.size w3 w3 := Below.refl _ _
  go_upto_region 5 with fail
  go_cut [8] (fun s8 wx => ∃ g hb cap', s8 = .pointer (some ⟨hb, 0, none⟩) ∧ OwnFl wx g n.flows pv ∧ w3.heap.size ≤ g ∧ w3.heap.size ≤ hb ∧ g ≠ hb ∧ g < wx.heap.size ∧ hb < wx.heap.size ∧ n.flows.length ≤ cap' ∧ wx.cell? ⟨hb, 0, none⟩ = some (.slice A1 n.gates.length c1) ∧ wx.cell? ⟨hb, 1, none⟩ = some (.slice (some ⟨g, 0, none⟩) n.flows.length cap') ∧ Below w3.heap.size w3 wx)
  case first =>
    go_region_held3 (fun w' => w'.cell? ⟨w.heap.size, 0, none⟩ = some (.slice A1 n.gates.length c1) ∧ w'.cell? ⟨w.heap.size, 1, none⟩ = some (.slice A2 n.flows.length c2)) (first | go_keep | exact HK.out _ (hb33.drew.trans (hb5.mono (by simp))) | exact HK.out _ ((hb33.drew.alloc (by simp) _).trans (hb5.mono (by simp))) | exact HK.out _ (((hb33.alloc (by simp) _).drew).trans (hb5.mono (by simp))) | exact HK.out _ ((hb33.drew.trans (hb5.mono (by simp))).alloc (by have := hb5.size; simp at this; omega) _) | exact HK.out _ (((((hb33.alloc (by simp) _).drew).trans (hb5.mono (by simp))).setCell (p := ⟨w3.heap.size, 0, none⟩) (Nat.le_refl _) _).setCell (p := ⟨w3.heap.size, 1, none⟩) (Nat.le_refl _) _))
      ((refine step_app_flows _ (by rfl) _ _ (by rfl) (by rfl) A2 c2 n.flows pv (by rfl) (HSL.out _ (by first | exact hb33.drew | exact hb33.drew.alloc (by simp) _ | exact (hb33.alloc (by simp) _).drew)) hF1 (by omega) _ (by rfl) ?_; intro cap1 w5 hO5 hH5 hc5 hb5; first | (have r0 : w5.cell? ⟨w3.heap.size, 0, none⟩ = some (.slice none 0 0) := (bcell hb5 w3.heap.size 0 (by simp)).trans (newcell w3 #[.slice none 0 0, .slice none 0 0] 25 0); have r1 : w5.cell? ⟨w3.heap.size, 1, none⟩ = some (.slice none 0 0) := (bcell hb5 w3.heap.size 1 (by simp)).trans (newcell w3 #[.slice none 0 0, .slice none 0 0] 25 1); have r2 : w5.frozen? ⟨w3.heap.size, 0, none⟩ = false := (bfrozen hb5 w3.heap.size 0 (by simp)).trans (newfrozen w3 _ 25 0); have r3 : w5.frozen? ⟨w3.heap.size, 1, none⟩ = false := (bfrozen hb5 w3.heap.size 1 (by simp)).trans (newfrozen w3 _ 25 1)) | skip))
    · go_wp2_with fail
      go_meet
      refine ⟨w3.heap.size, w5.heap.size, cap1, rfl, OwnF.alloc hO5 _, Nat.le_refl _, Nat.le_of_lt hH5, Nat.ne_of_lt hH5, ?_, ?_, hc5, newcell _ _ _ _, newcell _ _ _ _, (hb33.drew.trans (hb5.mono (by simp))).alloc (Nat.le_of_lt hH5) _⟩
      · have := hH5; simp at this ⊢; omega
      · simp
    · have hO6 : OwnFl w5 (w3.heap.size + 1) n.flows pv := by simpa using hO5
      have hH6 : w3.heap.size + 1 < w5.heap.size := by simpa using hH5
      go_wp2_with fail
      go_meet
      refine ⟨w3.heap.size + 1, w3.heap.size, cap1, rfl, OwnF.far (OwnF.far hO6 (by simp) _) (by simp) _, by omega, Nat.le_refl _, by omega, by simpa using hH6, by simp; omega, hc5, ?_, ?_, ((((hb33.alloc (by simp) _).drew).trans (hb5.mono (by simp))).setCell (p := ⟨w3.heap.size, 0, none⟩) (Nat.le_refl _) _).setCell (p := ⟨w3.heap.size, 1, none⟩) (Nat.le_refl _) _⟩
      · go_simp
      · go_simp
  case rest =>
    obtain ⟨g, hb, cap', rfl, hO, hg, hhb, hne, hgl, hhl, hcap', u0, u1, hb4⟩ := hcut
    have HKc := HK.out wc hb4
    have q0' := HKc.1
    have q1' := HKc.2
    have p0 := (bcell hb4 (w.heap.size + 1) 0 hs3).trans m0
    have p1 := (bcell hb4 (w.heap.size + 1) 1 hs3).trans m1
    have p2 := (bcell hb4 (w.heap.size + 1) 2 hs3).trans m2
    clear HKc q0 q1 m0 m1 m2 HK HSL hb33
    have ht1 : -(n.flows.length : Int) < cN.tmod n.flows.length := Int.lt_tmod_of_pos _ (by omega)
    have ht2 : cN.tmod n.flows.length < n.flows.length := Int.tmod_lt_of_pos _ (by omega)
    have ht3 : 0 ≤ (cN.tmod n.flows.length + n.flows.length).tmod (n.flows.length : Int) := Int.tmod_nonneg _ (by omega)
    have ht4 : (cN.tmod n.flows.length + n.flows.length).tmod (n.flows.length : Int) < n.flows.length := Int.tmod_lt_of_pos _ (by omega)
    obtain ⟨i, hi⟩ := Int.eq_ofNat_of_zero_le ht3
    have hil : i < n.flows.length := by omega
    have hil1 : (i : Int) < (n.flows.length : Int) := by omega
    have hil2 : (n.flows.length : Int) ≤ (cap' : Int) := by omega
    have hf : n.flows[i]? = some n.flows[i] := List.getElem?_eq_getElem hil
    have hfo := flow_rate HV.out hf
    generalize n.flows[i] = f at *
    have HF := Lib.hid hf
    have et0 : IntKind.i64.wrap (cN.tmod n.flows.length) = cN.tmod n.flows.length := IntWalk.i64_in _ (by omega)
    have et1 : IntKind.i64.wrap (cN.tmod n.flows.length + n.flows.length) = cN.tmod n.flows.length + n.flows.length := IntWalk.i64_in _ (by omega)
    clear ht1 ht2 ht3 ht4 hf
    go_wp2_with fail
    go_quiet (fail)
    clear et0 et1 hi q0' q1' p0
    go_wp2_with fail
    have hb5 := bdrew hb4 nq
    have u0' : (wc.drewN nq).cell? ⟨hb, 0, none⟩ = some (.slice A1 n.gates.length c1) := u0
    have u1' : (wc.drewN nq).cell? ⟨hb, 1, none⟩ = some (.slice (some ⟨g, 0, none⟩) n.flows.length cap') := u1
    have p1' : (wc.drewN nq).cell? ⟨w.heap.size + 1, 1, none⟩ = some (.int .i64 cA) := p1
    have p2' : (wc.drewN nq).cell? ⟨w.heap.size + 1, 2, none⟩ = some (.int .i64 cB) := p2
    have hO5 : OwnFl (wc.drewN nq) g n.flows pv := hO
    have hgl5 : g < (wc.drewN nq).heap.size := hgl
    have hhl5 : hb < (wc.drewN nq).heap.size := hhl
    generalize wc.drewN nq = w5 at *
    clear hO u0 u1 p1 p2 hb4 hgl hhl
    obtain ⟨mA, hmA⟩ : ∃ m : Int, (if 1000 < cA then 1000 else cA) = m := ⟨_, rfl⟩
    obtain ⟨dA, hdA⟩ : ∃ d : Int, (if 0 < mA then mA else 0) = d := ⟨_, rfl⟩
    have bA : 0 ≤ dA ∧ dA ≤ 1000 := by subst hdA; subst hmA; split <;> (try split) <;> omega
    obtain ⟨mB, hmB⟩ : ∃ m : Int, (if 100 < cB then 100 else cB) = m := ⟨_, rfl⟩
    obtain ⟨dB, hdB⟩ : ∃ d : Int, (if 0 < mB then mB else 0) = d := ⟨_, rfl⟩
    have bB : 0 ≤ dB ∧ dB ≤ 100 := by subst hdB; subst hmB; split <;> (try split) <;> omega
    have g0 : w5.cell? ⟨g, i * 3, none⟩ = some (.int .i64 f.burst) := by
      have := OwnF.cell hO5 (j := i * 3) (by omega)
      rw [this, show i * 3 / 3 = i by omega, show i * 3 % 3 = 0 by omega]
      unfold flowCell
      rw [List.getD_eq_getElem?_getD, HF.out]; rfl
    have z0 := OwnF.frozen hO5 (i * 3)
    have e0 : IntKind.i64.wrap (f.burst + dA) = f.burst + dA := IntWalk.i64_in _ (by omega)
    refine wp_region_quiet_tail 11 (by kernel_rfl) (by kernel_rfl) ?_
    simp only [List.take_succ_cons, List.take_zero, List.drop_succ_cons, List.drop_zero]
    repeat (go_big_quiet_step (fail))
    refine wpQuiet_nil ?_
    clear e0
    go_wp2_with fail
    have hO6 : OwnFl (w5.setCell ⟨g, i * 3, none⟩ (.int .i64 (f.burst + dA))).drew g (n.flows.set i ⟨f.burst + dA, f.rate, f.path⟩) pv :=
      hO5.set (j := 0) (f.burst + dA) HF.out (by omega) (fun _ => rfl) (fun pw m hm hne => by match m, hm, hne with | 1, _, _ => rfl | 2, _, _ => rfl)
    have hb6 : Below w3.heap.size w3 (w5.setCell ⟨g, i * 3, none⟩ (.int .i64 (f.burst + dA))).drew := (hb5.setCell (p := ⟨g, i * 3, none⟩) hg _).drew
    have u0 : (w5.setCell ⟨g, i * 3, none⟩ (.int .i64 (f.burst + dA))).drew.cell? ⟨hb, 0, none⟩ = some (.slice A1 n.gates.length c1) := (cell_far (w := w5) (by omega)).trans u0'
    have u1 : (w5.setCell ⟨g, i * 3, none⟩ (.int .i64 (f.burst + dA))).drew.cell? ⟨hb, 1, none⟩ = some (.slice (some ⟨g, 0, none⟩) n.flows.length cap') := (cell_far (w := w5) (by omega)).trans u1'
    have p2 : (w5.setCell ⟨g, i * 3, none⟩ (.int .i64 (f.burst + dA))).drew.cell? ⟨w.heap.size + 1, 2, none⟩ = some (.int .i64 cB) := (cell_far (w := w5) (by omega)).trans p2'
    have hgl6 : g < (w5.setCell ⟨g, i * 3, none⟩ (.int .i64 (f.burst + dA))).drew.heap.size := by simpa using hgl5
    have hhl6 : hb < (w5.setCell ⟨g, i * 3, none⟩ (.int .i64 (f.burst + dA))).drew.heap.size := by simpa using hhl5
    generalize World.drew (w5.setCell ⟨g, i * 3, none⟩ (.int .i64 (f.burst + dA))) = w6 at *
    clear g0 z0 u0' u1' p1' p2' hb5 hO5 hmA hdA hgl5 hhl5
    have hL1 : (n.flows.set i ⟨f.burst + dA, f.rate, f.path⟩)[i]? = some ⟨f.burst + dA, f.rate, f.path⟩ := List.getElem?_set_self hil
    have g0 : w6.cell? ⟨g, i * 3 + 1, none⟩ = some (.int .i64 f.rate) := by
      have := OwnF.cell hO6 (j := i * 3 + 1) (by rw [List.length_set]; omega)
      rw [this, show (i * 3 + 1) / 3 = i by omega, show (i * 3 + 1) % 3 = 1 by omega]
      unfold flowCell
      rw [List.getD_eq_getElem?_getD, hL1]; rfl
    have z0 := OwnF.frozen hO6 (i * 3 + 1)
    have e0 : IntKind.i64.wrap (f.rate + dB) = f.rate + dB := IntWalk.i64_in _ (by omega)
    have HL1 := Lib.hid hL1
    clear hL1
    refine wp_region_quiet_tail 11 (by kernel_rfl) (by kernel_rfl) ?_
    simp only [List.take_succ_cons, List.take_zero, List.drop_succ_cons, List.drop_zero]
    repeat (go_big_quiet_step (fail))
    refine wpQuiet_nil ?_
    clear e0
    go_wp2_with fail
    have hO7 : OwnFl (w6.setCell ⟨g, i * 3 + 1, none⟩ (.int .i64 (f.rate + dB))).drew g (n.flows.set i ⟨f.burst + dA, f.rate + dB, f.path⟩) pv := by
      have := hO6.set (j := 1) (f' := ⟨f.burst + dA, f.rate + dB, f.path⟩) (f.rate + dB) HL1.out (by omega) (fun _ => rfl) (fun pw m hm hne => by match m, hm, hne with | 0, _, _ => rfl | 2, _, _ => rfl)
      rw [List.set_set] at this
      exact this
    have hb7 : Below w3.heap.size w3 (w6.setCell ⟨g, i * 3 + 1, none⟩ (.int .i64 (f.rate + dB))).drew := (hb6.setCell (p := ⟨g, i * 3 + 1, none⟩) hg _).drew
    have u0' : (w6.setCell ⟨g, i * 3 + 1, none⟩ (.int .i64 (f.rate + dB))).drew.cell? ⟨hb, 0, none⟩ = some (.slice A1 n.gates.length c1) := (cell_far (w := w6) (by omega)).trans u0
    have u1' : (w6.setCell ⟨g, i * 3 + 1, none⟩ (.int .i64 (f.rate + dB))).drew.cell? ⟨hb, 1, none⟩ = some (.slice (some ⟨g, 0, none⟩) n.flows.length cap') := (cell_far (w := w6) (by omega)).trans u1
    have hgl7 : g < (w6.setCell ⟨g, i * 3 + 1, none⟩ (.int .i64 (f.rate + dB))).drew.heap.size := by simpa using hgl6
    generalize World.drew (w6.setCell ⟨g, i * 3 + 1, none⟩ (.int .i64 (f.rate + dB))) = w7 at *
    clear g0 z0 u0 u1 p2 hb6 hO6 hmB hdB hgl6 hhl6 HL1
    have hLE : LeN n ⟨n.gates, n.flows.set i ⟨f.burst + dA, f.rate + dB, f.path⟩⟩ := by
      refine ⟨rfl, ?_, fun k hk => ?_⟩
      · show (n.flows.set i ⟨f.burst + dA, f.rate + dB, f.path⟩).map (·.path) = _
        rw [List.map_set]
        refine List.ext_getElem? fun k => ?_
        by_cases hki : i = k
        · subst hki
          rw [List.getElem?_set_self (by simpa using hil), List.getElem?_map, HF.out]; rfl
        · rw [List.getElem?_set_ne hki]
      · by_cases hki : i = k
        · subst hki
          have e1 : flowAt n i = f := flowAt_of HF.out
          have e2 : flowAt ⟨n.gates, n.flows.set i ⟨f.burst + dA, f.rate + dB, f.path⟩⟩ i = ⟨f.burst + dA, f.rate + dB, f.path⟩ := flowAt_of (List.getElem?_set_self hil)
          rw [e1, e2]
          exact ⟨by show f.burst ≤ f.burst + dA; omega, by show f.rate ≤ f.rate + dB; omega⟩
        · have e2 : flowAt ⟨n.gates, n.flows.set i ⟨f.burst + dA, f.rate + dB, f.path⟩⟩ k = flowAt n k := by
            unfold flowAt
            rw [List.getD_eq_getElem?_getD, List.getD_eq_getElem?_getD, List.getElem?_set_ne hki]
          rw [e2]
          exact ⟨Int.le_refl _, Int.le_refl _⟩
    have hN' : NetA w7 w7.heap.size A1 (some ⟨g, 0, none⟩) ⟨n.gates, n.flows.set i ⟨f.burst + dA, f.rate + dB, f.path⟩⟩ := by
      have h1 := (hE3.net.below (hb7.mono (B' := w.heap.size) (by omega)) (Nat.le_refl _)).more (show w.heap.size ≤ w7.heap.size by have := hb7.size; omega)
      refine ⟨h1.1, by show (n.flows.set i _).length ≤ maxLen; rw [List.length_set]; exact h1.2.1, h1.2.2.1, hO7.flows hgl7 fun k hk => ?_⟩
      have hk' : k < n.flows.length := by simpa using hk
      have h2 := HPV.out k hk'
      have h3 : ((n.flows.set i ⟨f.burst + dA, f.rate + dB, f.path⟩).getD k ⟨0, 0, []⟩).path = (n.flows.getD k ⟨0, 0, []⟩).path := by
        have := hLE.path k
        unfold flowAt at this
        exact this
      rw [h3]
      exact ⟨h2.1, (h2.2.below (hb7.mono (B' := w.heap.size) (by omega)) (Nat.le_refl _)).more (by have := hb7.size; omega)⟩
    obtain ⟨⟨x', a', c'⟩, hp'⟩ : ∃ p, delOut ⟨n.gates, n.flows.set i ⟨f.burst + dA, f.rate + dB, f.path⟩⟩ = p := ⟨_, rfl⟩
    have hDC := delays_out A1 (some ⟨g, 0, none⟩) c1 cap' _ w7 hN' hp'
    have hlen' : (n.flows.set i ⟨f.burst + dA, f.rate + dB, f.path⟩).length = n.flows.length := List.length_set ..
    have hDC' : Calls Try.prog 19 #[.agg #[.slice A1 n.gates.length c1, .slice (some ⟨g, 0, none⟩) n.flows.length cap']] w7 (RetD w7 (x', a', c')) := by
      have := hDC
      rw [show (MNet.mk n.gates (n.flows.set i ⟨f.burst + dA, f.rate + dB, f.path⟩)).flows.length = n.flows.length from hlen'] at this
      exact this
    have HDC := Lib.hid hDC'
    have HP' := Lib.hid hp'
    have HLE := Lib.hid hLE
    clear hDC hDC' hp' hLE hN' hO7 hlen' hSl
    have hbw := hE3.old
    have hX7 := hX.below hb7 (Nat.le_refl _)
    have hD7 := hDD.below hb7 (Nat.le_refl _)
    have hbw7 := hbw.trans (hb7.mono (by omega))
    have hs37 := hb7.size
    clear hX hDD hbw hb7 hE3
    go_wp2_with fail
    refine HDC.out.mono ?_
    rintro e w8 ⟨hb8, X', xk', Y', dk', rfl, hX', hY'⟩
    have hX8 := hX7.below (hb8.mono hs37) (Nat.le_refl _)
    have hD8 := hD7.below (hb8.mono hs37) (Nat.le_refl _)
    have hbw8 := hbw7.trans (hb8.mono (by omega))
    have hs38 := Nat.le_trans hs37 hb8.size
    clear hX7 hD7 hbw7 hb8 u0' u1'
    by_cases hc' : c' = 0
    rotate_left
    · have hc0 : (c' == 0) = false := by simpa using hc'
      have hc1 : (c' != 0) = true := by simpa using hc'
      clear hc'
      go_wp2_with fail
      refine (works_any w8).mono ?_
      rintro e w9 ⟨rfl, hb9⟩
      have hb10 := hbw8.trans (hb9.mono (by omega))
      clear hbw8 hb9
      go_wp2_with fail
      go_ret
      exact ⟨rfl, hb10⟩
    subst hc'
    obtain ⟨⟨hxl, hxle⟩, hal, hale⟩ := delOut_le HLE.out HP.out HP'.out
    have HXL := Lib.hid hxle
    have HAL := Lib.hid hale
    have hxl1 : x.length ≤ x'.length := by omega
    have hxl2 : x'.length ≤ x.length := by omega
    have hal1 : a.length ≤ a'.length := by omega
    have hal2 : a'.length ≤ a.length := by omega
    have hx0 : ((x'.length : Int) != (x.length : Int)) = false := by rw [bne_eq_false_iff_eq]; omega
    have ha0 : ((a'.length : Int) != (a.length : Int)) = false := by rw [bne_eq_false_iff_eq]; omega
    have hx40 : x.length ≤ 9223372036854775807 := by have := hX8.1; unfold maxLen at this; omega
    have ha40 : a.length ≤ 9223372036854775807 := by have := hD8.1; unfold maxLen at this; omega
    clear hxl hxle hal hale
    go_wp2_with fail
    go_loopw [4, 12] (fun v4 v wr => v4 = .bool false ∧ ∃ k : Nat, k ≤ x'.length ∧ v = .int .i64 k ∧ Below w8.heap.size w8 wr) (fun _ v _ => x'.length - (intOf v).toNat)
    case atStart => exact ⟨rfl, 0, Nat.zero_le _, rfl, Below.refl _ _⟩
    case round =>
      obtain ⟨rfl, k, hk, rfl, hbw⟩ := hrel
      by_cases hlt : k < x'.length
      · obtain ⟨b1, o1, rfl, hb1, y1⟩ := (hX8.below (hbw.mono (B' := w3.heap.size) (by omega)) (Nat.le_refl _)).at_ (k := k) (by omega)
        obtain ⟨b2, o2, rfl, hb2, y2⟩ := (hX'.below hbw (Nat.le_refl _)).at_ (k := k) hlt
        have hcmp := HXL.out k (by omega)
        have hkx : k < x.length := by omega
        generalize x.getD k 0 = z1 at *
        generalize x'.getD k 0 = z2 at *
        go_wp2_with fail
        go_quiet (fail)
        go_wp2_with fail
        go_roundw
        case rel => exact ⟨rfl, k + 1, by omega, by go_num, bdrew hbw _⟩
        case measure => simp [intOf]; omega
      · obtain rfl : k = x'.length := by omega
        go_wp2_with fail
        have hX9 := hX8
        have hD9 := hD8.below (hbw.mono (B' := w3.heap.size) (by omega)) (Nat.le_refl _)
        have hY9 := hY'.below hbw (Nat.le_refl _)
        have hbw9 := hbw8.trans (hbw.mono (by omega))
        have hs39 := Nat.le_trans hs38 hbw.size
        have hs89 := hbw.size
        clear hX8 hX9 hX' hD8 hY' hbw8 hbw
        obtain ⟨w9, rfl⟩ : ∃ w9 : World, w9 = wr := ⟨_, rfl⟩
        go_loopw [4, 13] (fun v4 v wr => v4 = .bool false ∧ ∃ k : Nat, k ≤ a'.length ∧ v = .int .i64 k ∧ Below w9.heap.size w9 wr) (fun _ v _ => a'.length - (intOf v).toNat)
        case atStart => exact ⟨rfl, 0, Nat.zero_le _, rfl, Below.refl _ _⟩
        case round =>
          obtain ⟨rfl, k, hk, rfl, hbw⟩ := hrel
          by_cases hlt : k < a'.length
          · obtain ⟨b1, o1, rfl, hb1, y1⟩ := (hD9.below (hbw.mono (B' := w3.heap.size) (by omega)) (Nat.le_refl _)).at_ (k := k) (by omega)
            obtain ⟨b2, o2, rfl, hb2, y2⟩ := (hY9.below (hbw.mono (B' := w8.heap.size) hs89) (Nat.le_refl _)).at_ (k := k) hlt
            have hcmp := HAL.out k (by omega)
            have hkx : k < a.length := by omega
            generalize a.getD k 0 = z1 at *
            generalize a'.getD k 0 = z2 at *
            go_wp2_with fail
            go_quiet (fail)
            go_wp2_with fail
            go_roundw
            case rel => exact ⟨rfl, k + 1, by omega, by go_num, bdrew hbw _⟩
            case measure => simp [intOf]; omega
          · obtain rfl : k = a'.length := by omega
            go_wp2_with fail
            refine (works_any wr).mono ?_
            rintro e w11 ⟨rfl, hb11⟩
            have hbw11 := hbw9.trans ((hbw.trans (hb11.mono hbw.size)).mono (by omega))
            clear hbw9 hbw hb11
            go_wp2_with fail
            go_ret
            exact ⟨rfl, hbw11⟩
theorem busMore_row (A1 A2 : Option Addr) (c1 c2 : Nat) (n : MNet) (cN cA cB cC : Int) (w : World) (h : NetA w w.heap.size A1 A2 n) (_ : (Lit.int .i64 cN).wf = true ∧ (Lit.int .i64 cA).wf = true ∧ (Lit.int .i64 cB).wf = true ∧ (Lit.int .i64 cC).wf = true) :
    Calls Try.prog 5 #[.agg #[.slice A1 n.gates.length c1, .slice A2 n.flows.length c2], .agg #[.int .i64 cN, .int .i64 cA, .int .i64 cB, .int .i64 cC]] w fun e w' => e = .returned (.bool true) ∧ Below w.heap.size w w' := busMore_any A1 A2 c1 c2 n cN cA cB cC w h
end Go.Proofs.Ytlbbhlkbhegegaa
