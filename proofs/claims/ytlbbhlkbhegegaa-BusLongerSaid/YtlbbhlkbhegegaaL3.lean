/- Walks: ignitionlaw04.BusLonger. -/
import Derived.Test.YtlbbhlkbhegegaaW2
import Derived.Test.YtlbbhlkbhegegaaR12
import Derived.Test.YtlbbhlkbhegegaaMo2
import Derived.Test.YtlbbhlkbhegegaaFo
namespace Go.Proofs.Ytlbbhlkbhegegaa
open Go.RowKit

set_option maxRecDepth 100000 in
set_option maxHeartbeats 2000000 in
theorem busLonger_any (A : Option Addr) (cap : Nat) (l : List MFrame) (cN cA cB cC : Int) (w : World) (h : FramesA w w.heap.size A l) (hcap : l.length ≤ cap) :
    Calls Try.prog 4 #[.slice A l.length cap, .agg #[.int .i64 cN, .int .i64 cA, .int .i64 cB, .int .i64 cC]] w fun e w' => e = .returned (.bool true) ∧ Below w.heap.size w w' := by
  have hlen := h.1
  unfold maxLen at hlen
  have hb0 : Below w.heap.size w (w.alloc (.cells #[.int .i64 cN, .int .i64 cA, .int .i64 cB, .int .i64 cC] 36)) := (Below.refl _ _).alloc (Nat.le_refl _) _
  have n0 := newcell w #[.int .i64 cN, .int .i64 cA, .int .i64 cB, .int .i64 cC] 36 0
  have n1 := newcell w #[.int .i64 cN, .int .i64 cA, .int .i64 cB, .int .i64 cC] 36 1
  have n2 := newcell w #[.int .i64 cN, .int .i64 cA, .int .i64 cB, .int .i64 cC] 36 2
  have n3 := newcell w #[.int .i64 cN, .int .i64 cA, .int .i64 cB, .int .i64 cC] 36 3
  simp only [List.getElem?_toArray, List.getElem?_cons_succ, List.getElem?_cons_zero] at n0 n1 n2 n3
  have HCH : Hid (∀ w1, Below w.heap.size w w1 → Calls Try.prog 23 #[.slice A l.length cap] w1 fun e w' => e = .returned (.int .i64 (fcheckS l)) ∧ Below w1.heap.size w1 w') := fun w1 hb => rfcheck_any A cap l w1 ((h.keep hb).more hb.size)
  have HHV : Hid (∀ w1, Below w.heap.size w w1 → Calls Try.prog 24 #[.slice A l.length cap] w1 fun e w' => (∃ r, e = .returned (.bool r)) ∧ Below w1.heap.size w1 w') := fun w1 hb => heavy_any A cap l w1 ((h.keep hb).more hb.size)
  by_cases hl0 : l.length = 0
  · have hl1 : ((l.length : Int) == 0) = true := by rw [beq_iff_eq]; omega
    clear hl0
    go_enter Try.func4, Try.ntmps4
    go_wp2_with (go_at_call 22; refine (works_any _).mono ?_; rintro e w1 ⟨rfl, hb1⟩)
    go_ret
    exact ⟨rfl, hb0.trans (hb1.mono hb0.size)⟩
  have hl1 : ((l.length : Int) == 0) = false := by rw [beq_eq_false_iff_ne]; omega
  rcases hv : framesB l
  · rw [fcheck_no hv] at HCH
    clear hv
    go_enter Try.func4, Try.ntmps4
    go_wp2_with (first | (go_at_call 23; refine (HCH.out _ hb0).mono ?_; rintro e w1 ⟨rfl, hb1⟩) | (go_at_call 22; refine (works_any _).mono ?_; rintro e w2 ⟨rfl, hb2⟩))
    go_ret
    exact ⟨rfl, (hb0.trans (hb1.mono hb0.size)).trans (hb2.mono (by have := hb0.size; have := hb1.size; omega))⟩
  rw [fcheck_yes hv] at HCH
  have HV := Lib.hid hv
  have hl40 := (framesB_parts hv).1
  clear hv
  go_enter Try.func4, Try.ntmps4
  go_wp2_with (go_at_call 23; refine (HCH.out _ hb0).mono ?_; rintro e w1 ⟨rfl, hb1⟩)
  have hbw := hb0.trans (hb1.mono hb0.size)
  refine (HHV.out _ hbw).mono ?_
  rintro e w2 ⟨⟨r, rfl⟩, hb2⟩
  have hbw2 := hbw.trans (hb2.mono hbw.size)
  rcases r with _ | _
  rotate_left
  · clear n0 n1 n2 n3
    go_wp2_with fail
    refine (works_any w2).mono ?_
    rintro e w3 ⟨rfl, hb3⟩
    have hbw3 := hbw2.trans (hb3.mono hbw2.size)
    clear hbw hbw2 hb3 hb0 hb1 hb2
    go_wp2_with fail
    go_ret
    exact ⟨rfl, hbw3⟩
  have hwb : w.heap.size < (w.alloc (.cells #[.int .i64 cN, .int .i64 cA, .int .i64 cB, .int .i64 cC] 36)).heap.size := by simp
  have m0 := (bcell (hb1.trans (hb2.mono hb1.size)) w.heap.size 0 hwb).trans n0
  have m1 := (bcell (hb1.trans (hb2.mono hb1.size)) w.heap.size 1 hwb).trans n1
  have m2 := (bcell (hb1.trans (hb2.mono hb1.size)) w.heap.size 2 hwb).trans n2
  have m3 := (bcell (hb1.trans (hb2.mono hb1.size)) w.heap.size 3 hwb).trans n3
  have hsz2 : w.heap.size < w2.heap.size := by have := hb1.size; have := hb2.size; omega
  clear hb0 hb1 hb2 hbw n0 n1 n2 n3 HCH HHV
  have hfr := (h.keep hbw2).more hbw2.size
  have ht1 : -(l.length : Int) < cN.tmod l.length := Int.lt_tmod_of_pos _ (by omega)
  have ht2 : cN.tmod l.length < l.length := Int.tmod_lt_of_pos _ (by omega)
  have ht3 : 0 ≤ (cN.tmod l.length + l.length) % (l.length : Int) := Int.emod_nonneg _ (by omega)
  have ht4 : (cN.tmod l.length + l.length) % (l.length : Int) < l.length := Int.emod_lt_of_pos _ (by omega)
  obtain ⟨i, hi⟩ := Int.eq_ofNat_of_zero_le ht3
  have hil : i < l.length := by omega
  go_wp2_with (at_builtin; refine app_frames _ rfl _ _ rfl rfl A cap l rfl hfr (by omega) (by omega) ?_; intro g cap' w3 hO hgb hcap' hb3; have p0 := (bcell hb3 w.heap.size 0 hsz2).trans m0; have p1 := (bcell hb3 w.heap.size 1 hsz2).trans m1; have p2 := (bcell hb3 w.heap.size 2 hsz2).trans m2; have p3 := (bcell hb3 w.heap.size 3 hsz2).trans m3)
  have hf : l[i]? = some l[i] := List.getElem?_eq_getElem hil
  have hfo := framesF HV.out i _ hf
  have hs0 := hfo.1
  have HFO := Lib.hid hfo
  clear hfo
  generalize l[i] = f at *
  have g0 : w3.cell? ⟨g, i * 5, none⟩ = some (.int .i64 f.size) := by
    have := OwnF.cell hO (j := i * 5) (by omega)
    rw [this, show i * 5 / 5 = i by omega, show i * 5 % 5 = 0 by omega]
    unfold frameCell
    rw [List.getD_eq_getElem?_getD, hf]; rfl
  have z0 := OwnF.frozen hO (i * 5)
  clear ht1 ht2 ht3 ht4 m0 m1 m2 m3 hi
  have HF := Lib.hid hf
  clear hf
  obtain ⟨mA, hmA⟩ : ∃ m : Int, (if 5 < cA then 5 else cA) = m := ⟨_, rfl⟩
  obtain ⟨dA, hdA⟩ : ∃ d : Int, (if 0 < mA then mA else 0) = d := ⟨_, rfl⟩
  have bA : 0 ≤ dA ∧ dA ≤ 5 := by subst hdA; subst hmA; split <;> (try split) <;> omega
  obtain ⟨mB, hmB⟩ : ∃ m : Int, (if 20 < cB then 20 else cB) = m := ⟨_, rfl⟩
  obtain ⟨dB, hdB⟩ : ∃ d : Int, (if 0 < mB then mB else 0) = d := ⟨_, rfl⟩
  have bB : 0 ≤ dB ∧ dB ≤ 20 := by subst hdB; subst hmB; split <;> (try split) <;> omega
  obtain ⟨mC, hmC⟩ : ∃ m : Int, (if 10 < cC then 10 else cC) = m := ⟨_, rfl⟩
  obtain ⟨dC, hdC⟩ : ∃ d : Int, (if 0 < mC then mC else 0) = d := ⟨_, rfl⟩
  have bC : 0 ≤ dC ∧ dC ≤ 10 := by subst hdC; subst hmC; split <;> (try split) <;> omega
  have e0 : IntKind.i64.wrap (f.size + dA) = f.size + dA := IntWalk.i64_in _ (by omega)
  refine wp_region_quiet_tail 11 (by kernel_rfl) (by kernel_rfl) ?_
  simp only [List.take_succ_cons, List.take_zero, List.drop_succ_cons, List.drop_zero]
  repeat (go_big_quiet_step (fail))
  refine wpQuiet_nil ?_
  clear e0
  go_wp2_with fail
  have hg1 : w.heap.size < g := by omega
  have hO1 : OwnFr (w3.setCell ⟨g, i * 5, none⟩ (.int .i64 (f.size + dA))).drew g (l.set i ⟨f.size + dA, f.every, f.jitter, f.due, f.rank⟩) :=
    hO.set (j := 0) (f.size + dA) HF.out (by omega) rfl (fun m hm hne => by match m, hm, hne with | 1, _, _ => rfl | 2, _, _ => rfl | 3, _, _ => rfl | 4, _, _ => rfl)
  have hb4 : Below w2.heap.size w2 (w3.setCell ⟨g, i * 5, none⟩ (.int .i64 (f.size + dA))).drew := (hb3.setCell (p := ⟨g, i * 5, none⟩) hgb _).drew
  have q2 : (w3.setCell ⟨g, i * 5, none⟩ (.int .i64 (f.size + dA))).drew.cell? ⟨w.heap.size, 2, none⟩ = some (.int .i64 cB) := (cell_far' (w := w3) (by omega)).trans p2
  have q3 : (w3.setCell ⟨g, i * 5, none⟩ (.int .i64 (f.size + dA))).drew.cell? ⟨w.heap.size, 3, none⟩ = some (.int .i64 cC) := (cell_far' (w := w3) (by omega)).trans p3
  generalize World.drew (w3.setCell ⟨g, i * 5, none⟩ (.int .i64 (f.size + dA))) = w4 at *
  clear g0 z0 p0 p1 p2 p3 hb3 hO hmA hdA
  have hL1 : (l.set i ⟨f.size + dA, f.every, f.jitter, f.due, f.rank⟩)[i]? = some ⟨f.size + dA, f.every, f.jitter, f.due, f.rank⟩ := List.getElem?_set_self hil
  have g0 : w4.cell? ⟨g, i * 5 + 2, none⟩ = some (.int .i64 f.jitter) := by
    have := OwnF.cell hO1 (j := i * 5 + 2) (by rw [List.length_set]; omega)
    rw [this, show (i * 5 + 2) / 5 = i by omega, show (i * 5 + 2) % 5 = 2 by omega]
    unfold frameCell
    rw [List.getD_eq_getElem?_getD, hL1]; rfl
  have z0 := OwnF.frozen hO1 (i * 5 + 2)
  have hj0 := HFO.out.2.2.2.1
  have e0 : IntKind.i64.wrap (f.jitter + dB) = f.jitter + dB := IntWalk.i64_in _ (by omega)
  have HL1 := Lib.hid hL1
  clear hL1
  refine wp_region_quiet_tail 11 (by kernel_rfl) (by kernel_rfl) ?_
  simp only [List.take_succ_cons, List.take_zero, List.drop_succ_cons, List.drop_zero]
  repeat (go_big_quiet_step (fail))
  refine wpQuiet_nil ?_
  clear e0
  go_wp2_with fail
  have hO2 : OwnFr (w4.setCell ⟨g, i * 5 + 2, none⟩ (.int .i64 (f.jitter + dB))).drew g (l.set i ⟨f.size + dA, f.every, f.jitter + dB, f.due, f.rank⟩) := by
    have := hO1.set (j := 2) (f' := ⟨f.size + dA, f.every, f.jitter + dB, f.due, f.rank⟩) (f.jitter + dB) HL1.out (by omega) rfl (fun m hm hne => by match m, hm, hne with | 0, _, _ => rfl | 1, _, _ => rfl | 3, _, _ => rfl | 4, _, _ => rfl)
    rw [List.set_set] at this
    exact this
  have hb5 : Below w2.heap.size w2 (w4.setCell ⟨g, i * 5 + 2, none⟩ (.int .i64 (f.jitter + dB))).drew := (hb4.setCell (p := ⟨g, i * 5 + 2, none⟩) hgb _).drew
  have p3 : (w4.setCell ⟨g, i * 5 + 2, none⟩ (.int .i64 (f.jitter + dB))).drew.cell? ⟨w.heap.size, 3, none⟩ = some (.int .i64 cC) := (cell_far' (w := w4) (by omega)).trans q3
  generalize World.drew (w4.setCell ⟨g, i * 5 + 2, none⟩ (.int .i64 (f.jitter + dB))) = w5 at *
  clear g0 z0 q2 q3 hb4 hO1 hmB hdB HL1
  have hL1 : (l.set i ⟨f.size + dA, f.every, f.jitter + dB, f.due, f.rank⟩)[i]? = some ⟨f.size + dA, f.every, f.jitter + dB, f.due, f.rank⟩ := List.getElem?_set_self hil
  have g0 : w5.cell? ⟨g, i * 5 + 1, none⟩ = some (.int .i64 f.every) := by
    have := OwnF.cell hO2 (j := i * 5 + 1) (by rw [List.length_set]; omega)
    rw [this, show (i * 5 + 1) / 5 = i by omega, show (i * 5 + 1) % 5 = 1 by omega]
    unfold frameCell
    rw [List.getD_eq_getElem?_getD, hL1]; rfl
  have z0 := OwnF.frozen hO2 (i * 5 + 1)
  have hv0 := HFO.out.2.1
  have e0 : IntKind.i64.wrap (f.every - dC) = f.every - dC := IntWalk.i64_in _ (by omega)
  have HL1 := Lib.hid hL1
  clear hL1
  refine wp_region_quiet_tail 11 (by kernel_rfl) (by kernel_rfl) ?_
  simp only [List.take_succ_cons, List.take_zero, List.drop_succ_cons, List.drop_zero]
  repeat (go_big_quiet_step (fail))
  refine wpQuiet_nil ?_
  clear e0
  go_wp2_with fail
  have hO3 : OwnFr (w5.setCell ⟨g, i * 5 + 1, none⟩ (.int .i64 (f.every - dC))).drew g (l.set i ⟨f.size + dA, f.every - dC, f.jitter + dB, f.due, f.rank⟩) := by
    have := hO2.set (j := 1) (f' := ⟨f.size + dA, f.every - dC, f.jitter + dB, f.due, f.rank⟩) (f.every - dC) HL1.out (by omega) rfl (fun m hm hne => by match m, hm, hne with | 0, _, _ => rfl | 2, _, _ => rfl | 3, _, _ => rfl | 4, _, _ => rfl)
    rw [List.set_set] at this
    exact this
  have hb6 : Below w2.heap.size w2 (w5.setCell ⟨g, i * 5 + 1, none⟩ (.int .i64 (f.every - dC))).drew := (hb5.setCell (p := ⟨g, i * 5 + 1, none⟩) hgb _).drew
  generalize World.drew (w5.setCell ⟨g, i * 5 + 1, none⟩ (.int .i64 (f.every - dC))) = w6 at *
  clear g0 z0 p3 hb5 hO2 hmC hdC HL1
  have hLE : LeL l (l.set i ⟨f.size + dA, f.every - dC, f.jitter + dB, f.due, f.rank⟩) := ⟨by rw [List.length_set], fun k a b ha hb => by
    by_cases hk : i = k
    · subst hk
      rw [HF.out] at ha
      rw [List.getElem?_set_self hil] at hb
      injection ha with ha
      injection hb with hb
      subst ha
      subst hb
      exact ⟨by show f.size ≤ f.size + dA; omega, by show f.jitter ≤ f.jitter + dB; omega, by show f.every - dC ≤ f.every; omega, rfl⟩
    · rw [List.getElem?_set_ne hk] at hb
      rw [ha] at hb
      injection hb with hb
      subst hb
      exact ⟨Int.le_refl _, Int.le_refl _, Int.le_refl _, rfl⟩⟩
  generalize l.set i ⟨f.size + dA, f.every - dC, f.jitter + dB, f.due, f.rank⟩ = L at *
  have hLlen : L.length = l.length := hLE.len.symm
  have hFL := hO3.frames (by omega)
  have hbw6 := hbw2.trans (hb6.mono hbw2.size)
  have HLE := Lib.hid hLE
  have HC : Hid (∀ w1, Below w6.heap.size w6 w1 → Calls Try.prog 23 #[.slice (some ⟨g, 0, none⟩) l.length cap'] w1 fun e w' => e = .returned (.int .i64 (fcheckS L)) ∧ Below w1.heap.size w1 w') := fun w1 hb => by rw [← hLlen]; exact rfcheck_any _ cap' L w1 ((hFL.keep hb).more hb.size)
  have HHV : Hid (∀ w1, Below w6.heap.size w6 w1 → Calls Try.prog 24 #[.slice (some ⟨g, 0, none⟩) l.length cap'] w1 fun e w' => (∃ r, e = .returned (.bool r)) ∧ Below w1.heap.size w1 w') := fun w1 hb => by rw [← hLlen]; exact heavy_any _ cap' L w1 ((hFL.keep hb).more hb.size)
  have HR1 : Hid (∀ w1, Below w6.heap.size w6 w1 → Calls Try.prog 25 #[.slice A l.length cap] w1 (RetLE w1 (respL l) (fcheckS l))) := fun w1 hb => by
    have hb' := hbw6.trans (hb.mono hbw6.size)
    exact responses_any A cap l w1 ((h.keep hb').more hb'.size) hcap
  have HR2 : Hid (∀ w1, Below w6.heap.size w6 w1 → Calls Try.prog 25 #[.slice (some ⟨g, 0, none⟩) l.length cap'] w1 (RetLE w1 (respL L) (fcheckS L))) := fun w1 hb => by
    rw [← hLlen]
    exact responses_any _ cap' L w1 ((hFL.keep hb).more hb.size) (by omega)
  have HLL := Lib.hid hLlen
  clear hLE hLlen hO3 hb6 hfr hbw2 hFL h HF
  rcases hv : framesB L
  · rw [fcheck_no hv] at HC
    clear hv HR1 HR2 HHV
    go_wp2_with fail
    refine (HC.out _ (Below.refl _ _)).mono ?_
    rintro e w7 ⟨rfl, hb7⟩
    go_wp2_with fail
    refine (works_any w7).mono ?_
    rintro e w8 ⟨rfl, hb8⟩
    have hbw8 := (hbw6.trans (hb7.mono hbw6.size)).trans (hb8.mono (by have := hbw6.size; have := hb7.size; omega))
    clear hbw6 hb7 hb8
    go_wp2_with fail
    go_ret
    exact ⟨rfl, hbw8⟩
  rw [fcheck_yes hv] at HC HR2
  rw [fcheck_yes HV.out] at HR1
  have HVL := Lib.hid hv
  clear hv
  go_wp2_with fail
  refine (HC.out _ (Below.refl _ _)).mono ?_
  rintro e w7 ⟨rfl, hb7⟩
  clear HC
  go_wp2_with fail
  refine (HHV.out _ hb7).mono ?_
  rintro e w8 ⟨⟨r, rfl⟩, hb8⟩
  have hbw8 := hb7.trans (hb8.mono hb7.size)
  clear hb7 hb8 HHV
  rcases r with _ | _
  rotate_left
  · clear HR1 HR2
    go_wp2_with fail
    refine (works_any w8).mono ?_
    rintro e w9 ⟨rfl, hb9⟩
    have hbw9 := (hbw6.trans (hbw8.mono hbw6.size)).trans (hb9.mono (by have := hbw6.size; have := hbw8.size; omega))
    clear hbw6 hbw8 hb9
    go_wp2_with fail
    go_ret
    exact ⟨rfl, hbw9⟩
  have hR : respL l = (List.range l.length).map (respZ l) := by unfold respL; rw [HV.out]; rfl
  have hR' : respL L = (List.range l.length).map (respZ L) := by unfold respL; rw [HVL.out, HLL.out]; rfl
  have HX1 : Hid (∀ w1, Below w6.heap.size w6 w1 → Calls Try.prog 25 #[.slice A l.length cap] w1 fun e w' => ∃ A' c', e = .returned (.tuple #[.slice A' l.length c', .int .i64 0]) ∧ IntsA w' w'.heap.size A' ((List.range l.length).map (respZ l)) ∧ Below w1.heap.size w1 w') := fun w1 hb => (HR1.out w1 hb).mono fun e w' ⟨hb, A', c', he, _, hi⟩ => by
    rw [hR] at he hi
    refine ⟨A', c', ?_, hi, hb⟩
    rw [he]
    simp
  have HX2 : Hid (∀ w1, Below w6.heap.size w6 w1 → Calls Try.prog 25 #[.slice (some ⟨g, 0, none⟩) l.length cap'] w1 fun e w' => ∃ A' c', e = .returned (.tuple #[.slice A' l.length c', .int .i64 0]) ∧ IntsA w' w'.heap.size A' ((List.range l.length).map (respZ L)) ∧ Below w1.heap.size w1 w') := fun w1 hb => (HR2.out w1 hb).mono fun e w' ⟨hb, A', c', he, _, hi⟩ => by
    rw [hR'] at he hi
    refine ⟨A', c', ?_, hi, hb⟩
    rw [he]
    simp
  have HCMP : Hid (∀ k, k < l.length → respZ L k < 0 ∨ (0 ≤ respZ L k ∧ 0 ≤ respZ l k ∧ respZ l k ≤ respZ L k)) := fun k hk => by
    rcases ho : respI L k with _ | y
    · left
      unfold respZ
      rw [ho]
      decide
    · right
      obtain ⟨x, hx, hxy⟩ := resp_longer HLE.out HV.out HVL.out hk ho
      have hx0 := respI_nn HV.out hk hx
      unfold respZ
      rw [ho, hx]
      show 0 ≤ y ∧ 0 ≤ x ∧ x ≤ y
      omega
  have HAT1 : Hid (∀ k, k < l.length → ((List.range l.length).map (respZ l)).getD k 0 = respZ l k) := fun k hk => by simp [List.getD_eq_getElem?_getD, hk]
  have HAT2 : Hid (∀ k, k < l.length → ((List.range l.length).map (respZ L)).getD k 0 = respZ L k) := fun k hk => by simp [List.getD_eq_getElem?_getD, hk]
  have HLN1 : Hid (((List.range l.length).map (respZ l)).length = l.length) := by show _ = _; simp
  have HLN2 : Hid (((List.range l.length).map (respZ L)).length = l.length) := by show _ = _; simp
  generalize (List.range l.length).map (respZ l) = X at *
  generalize (List.range l.length).map (respZ L) = Y at *
  have hlll : ((l.length : Int) != (l.length : Int)) = false := by simp
  clear hR hR' HR1 HR2
  go_wp2_with fail
  refine (HX1.out _ hbw8).mono ?_
  rintro e w9 ⟨A1, c1, rfl, hI1, hb9⟩
  have hbw9 := hbw8.trans (hb9.mono hbw8.size)
  clear hbw8 hb9
  go_wp2_with fail
  refine (HX2.out _ hbw9).mono ?_
  rintro e w10 ⟨A2, c2, rfl, hI2, hb10⟩
  have hI1' := hI1.below hb10 (Nat.le_refl _)
  have hs910 := hb10.size
  have hbw10 := hbw6.trans ((hbw9.trans (hb10.mono hbw9.size)).mono hbw6.size)
  clear hbw9 hb10 hI1 hbw6 HX1 HX2
  go_wp2_with fail
  go_loopw [4, 11] (fun v4 v wr => v4 = .bool false ∧ ∃ k : Nat, k ≤ l.length ∧ v = .int .i64 k ∧ Below w10.heap.size w10 wr) (fun _ v _ => l.length - (intOf v).toNat)
  case atStart => exact ⟨rfl, 0, Nat.zero_le _, rfl, Below.refl _ _⟩
  case round =>
    obtain ⟨rfl, k, hk, rfl, hbw⟩ := hrel
    by_cases hlt : k < l.length
    · obtain ⟨b1, o1, rfl, hb1, x1⟩ := (hI1'.below (hbw.mono (B' := w9.heap.size) hs910) (Nat.le_refl _)).at_ (k := k) (by rw [HLN1.out]; exact hlt)
      obtain ⟨b2, o2, rfl, hb2, x2⟩ := (hI2.below hbw (Nat.le_refl _)).at_ (k := k) (by rw [HLN2.out]; exact hlt)
      rw [HAT1.out k hlt] at x1
      rw [HAT2.out k hlt] at x2
      have hcmp := HCMP.out k hlt
      generalize respZ l k = x at *
      generalize respZ L k = y at *
      go_wp2_with fail
      rcases hcmp with hy | ⟨hy, hx, hxy⟩
      · have d1 : decide (0 ≤ y) = false := decide_eq_false (by omega)
        by_cases hx : x < 0
        · have d2 : decide (x < 0) = true := decide_eq_true hx
          go_quiet (fail)
          go_wp2_with fail
          go_roundw
          case rel => exact ⟨rfl, k + 1, by omega, by go_num, bdrew hbw _⟩
          case measure => simp [intOf]; omega
        · have d2 : decide (x < 0) = false := decide_eq_false hx
          go_quiet (fail)
          go_wp2_with fail
          go_roundw
          case rel => exact ⟨rfl, k + 1, by omega, by go_num, bdrew hbw _⟩
          case measure => simp [intOf]; omega
      · have d1 : decide (0 ≤ y) = true := decide_eq_true hy
        have d2 : decide (x < 0) = false := decide_eq_false (by omega)
        have d3 : decide (y < x) = false := decide_eq_false (by omega)
        go_quiet (fail)
        go_wp2_with fail
        go_roundw
        case rel => exact ⟨rfl, k + 1, by omega, by go_num, bdrew hbw _⟩
        case measure => simp [intOf]; omega
    · obtain rfl : k = l.length := by omega
      go_wp2_with fail
      refine (works_any wr).mono ?_
      rintro e w11 ⟨rfl, hb11⟩
      have hbw11 := (hbw10.trans (hbw.mono hbw10.size)).trans (hb11.mono (by have := hbw10.size; have := hbw.size; omega))
      clear hbw10 hbw hb11
      go_wp2_with fail
      go_ret
      exact ⟨rfl, hbw11⟩
theorem busLonger_row (A : Option Addr) (cap : Nat) (l : List MFrame) (cN cA cB cC : Int) (w : World) (hcap : l.length ≤ cap) (_ : cap ≤ maxLen) (h : FramesA w w.heap.size A l)
    (_ : ∀ f ∈ l, (Lit.int .i64 f.size).wf = true ∧ (Lit.int .i64 f.every).wf = true ∧ (Lit.int .i64 f.jitter).wf = true ∧ (Lit.int .i64 f.due).wf = true ∧ (Lit.int .i64 f.rank).wf = true) (_ : (Lit.int .i64 cN).wf = true ∧ (Lit.int .i64 cA).wf = true ∧ (Lit.int .i64 cB).wf = true ∧ (Lit.int .i64 cC).wf = true) :
    Calls Try.prog 4 #[.slice A l.length cap, .agg #[.int .i64 cN, .int .i64 cA, .int .i64 cB, .int .i64 cC]] w fun e w' => e = .returned (.bool true) ∧ Below w.heap.size w w' := busLonger_any A cap l cN cA cB cC w h hcap
end Go.Proofs.Ytlbbhlkbhegegaa
