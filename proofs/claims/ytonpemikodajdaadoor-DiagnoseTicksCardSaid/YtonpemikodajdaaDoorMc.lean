/- Walk: the reference's Fits. Printed by gen_mc.py. -/
import Derived.Test.YtonpemikodajdaaDoorMb
namespace Go.Proofs.YtonpemikodajdaaDoor
open Go.RowKit

theorem codeOk_ref (l : List MMon) (t p : Int) (c : MCode) {k : Nat} (hp : (k = 0 → p = -1) ∧ (0 < k → 0 ≤ p)) : codeOk l t p c = (inB c.mon 0 ((l.length : Int) - 1) && (!(decide (0 < k) && decide (c.mon ≤ p)) && (inB c.last 0 (t - 1) && (inB c.first 0 c.last && (inB c.count 1 1000 && lawB l c.frame))))) := by
  unfold codeOk
  rcases lawB l c.frame
  · simp
  · unfold inB
    rw [Bool.eq_iff_iff]
    simp only [Bool.and_eq_true, Bool.not_eq_true', Bool.and_eq_false_iff, decide_eq_false_iff_not, decide_eq_true_eq, and_true]
    omega
set_option maxRecDepth 100000 in
set_option maxHeartbeats 4000000 in
theorem rfits_any (A : Option Addr) (cap : Nat) (l : List MMon) (v : Value) (t : Int) (s : WSt) (w : World) (h : MonsA w w.heap.size A l) (hm : MemA w w.heap.size v t s) (hmb : monsB l = true) {b : Bool} (hb : fitB l t s = b) :
    Calls Tryd.prog 37 #[.slice A l.length cap, v] w fun e w' => e = .returned (.bool b) ∧ Below w.heap.size w w' := by
  obtain ⟨Ac, cc, Ak, ck, Av, cv, rfl, hI1, hI2, hC, hcc, hck, hcv⟩ := hm
  have hl20 := monsB_len hmb
  have hn1 := hI1.1
  have hn2 := hI2.1
  have hn3 := hC.1
  unfold maxLen at hn1 hn2
  obtain ⟨w1, hw1⟩ : ∃ w1, w1 = w.alloc (.cells #[.int .i64 t, .slice Ac s.ns.length cc, .slice Ak s.cs.length ck, .slice Av s.ks.length cv] 27) := ⟨_, rfl⟩
  have hb1 : Below w.heap.size w w1 := by rw [hw1]; exact (Below.refl _ _).alloc (Nat.le_refl _) _
  have hh1 : w1.heap[w.heap.size]? = some (.cells #[.int .i64 t, .slice Ac s.ns.length cc, .slice Ak s.cs.length ck, .slice Av s.ks.length cv] 27 (0, 0)) := by rw [hw1]; exact heap_alloc_new w _
  have hs1 : w1.heap.size = w.heap.size + 1 := by rw [hw1]; simp
  have g0 := row_cell hh1 0
  have g1 := row_cell hh1 1
  have g2 := row_cell hh1 2
  have g3 := row_cell hh1 3
  simp only [List.getElem?_toArray, List.getElem?_cons_succ, List.getElem?_cons_zero] at g0 g1 g2 g3
  obtain ⟨y0, hy0⟩ : ∃ y, inB t 0 1000000 = y := ⟨_, rfl⟩
  obtain ⟨y1, hy1⟩ : ∃ y, decide (s.ns.length = l.length) = y := ⟨_, rfl⟩
  obtain ⟨y2, hy2⟩ : ∃ y, decide (s.cs.length = l.length) = y := ⟨_, rfl⟩
  obtain ⟨y3, hy3⟩ : ∃ y, codesOk l t s.ks = y := ⟨_, rfl⟩
  obtain ⟨y4, hy4⟩ : ∃ y, persOk l s = y := ⟨_, rfl⟩
  have HB : Hid ((y0 && (y1 && (y2 && (y3 && y4)))) = b) := by show _ = _; rw [← hb]; unfold fitB; rw [hy0, hy1, hy2, hy3, hy4]
  have Y0 := Lib.hid hy0
  have Y3 := Lib.hid hy3
  have Y4 := Lib.hid hy4
  have hwf := hw1.symm
  have htb : y0 = true → 0 ≤ t ∧ t ≤ 1000000 := fun e => by
    have := hy0.trans e
    unfold inB at this
    simp only [Bool.and_eq_true, decide_eq_true_eq] at this
    exact this
  have HTB := Lib.hid htb
  clear hb hy0 hy3 hy4 hw1 htb
  rcases y0 with _ | _
  · clear hy1 hy2
    go_enter Tryd.func37, Tryd.ntmps37
    go_wp2_with (go_at_call 63; refine (rwithin_b _ _ _ _ _ Y0.out).mono ?_; rintro e w2 ⟨rfl, rfl⟩)
    go_ret
    exact ⟨ret_b (by rw [← HB.out]; rfl), hb1⟩
  have htb := HTB.out rfl
  rcases y1 with _ | _
  · have hne : ((s.ns.length : Int) != (l.length : Int)) = true := by rw [bne_iff_ne]; have := of_decide_eq_false hy1; omega
    clear hy1 hy2
    go_enter Tryd.func37, Tryd.ntmps37
    go_wp2_with (go_at_call 63; refine (rwithin_b _ _ _ _ _ Y0.out).mono ?_; rintro e w2 ⟨rfl, rfl⟩)
    go_ret
    exact ⟨ret_b (by rw [← HB.out]; rfl), hb1⟩
  have e1 := of_decide_eq_true hy1
  rcases y2 with _ | _
  · have hne : ((s.ns.length : Int) != (l.length : Int)) = false := by rw [bne_eq_false_iff_eq]; omega
    have hne2 : ((s.cs.length : Int) != (l.length : Int)) = true := by rw [bne_iff_ne]; have := of_decide_eq_false hy2; omega
    clear hy1 hy2 e1
    go_enter Tryd.func37, Tryd.ntmps37
    go_wp2_with (go_at_call 63; refine (rwithin_b _ _ _ _ _ Y0.out).mono ?_; rintro e w2 ⟨rfl, rfl⟩)
    go_ret
    exact ⟨ret_b (by rw [← HB.out]; rfl), hb1⟩
  have e2 := of_decide_eq_true hy2
  have hne : ((s.ns.length : Int) != (l.length : Int)) = false := by rw [bne_eq_false_iff_eq]; omega
  have hne2 : ((s.cs.length : Int) != (l.length : Int)) = false := by rw [bne_eq_false_iff_eq]; omega
  have E1 := Lib.hid e1
  have E2 := Lib.hid e2
  clear hy1 hy2 e1 e2
  go_enter Tryd.func37, Tryd.ntmps37
  go_wp2_with (go_at_call 63; refine (rwithin_b _ _ _ _ _ Y0.out).mono ?_; rintro e w2 ⟨rfl, rfl⟩)
  go_loopw [5] (fun vi wr => ∃ k : Nat, k ≤ s.ks.length ∧ vi = .int .i64 k ∧ Hid (∀ j, j < k → codeOk l t (prevM s.ks j) (s.ks.getD j dCode) = true) ∧ Below w1.heap.size w1 wr) (fun vi _ => s.ks.length - (intOf vi).toNat)
  case atStart => exact ⟨0, Nat.zero_le _, rfl, (fun j hj => by omega), Below.refl _ _⟩
  case round =>
    obtain ⟨k, hk, rfl, HI, hbw⟩ := hrel
    have hBW : Below w.heap.size w wr := hb1.trans (hbw.mono (by omega))
    have e3 := (bcell hbw w.heap.size 3 (by omega)).trans g3
    by_cases hlt : k < s.ks.length
    · obtain ⟨f, bb, off, Ap, cp, hg, hAe, hbb, c0, c1, c2, c3, c4, c5, hcp, hfr⟩ := (hC.keep hBW).at_ hlt
      subst hAe
      obtain ⟨p, hp⟩ : ∃ p, prevM s.ks k = p := ⟨_, rfl⟩
      have hpp : (k = 0 → p = -1) ∧ (0 < k → 0 ≤ p) := by
        rw [← hp]
        unfold prevM
        refine ⟨fun e => by rw [if_pos e], fun e => ?_⟩
        rw [if_neg (by omega)]
        exact ((codesOk_mon HI.out).1 (k - 1) (by omega)).1
      have HG := Lib.hid hg
      have HP := Lib.hid hp
      obtain ⟨w2, hw2⟩ : ∃ w2, w2 = wr.alloc (.cells #[.int .i64 f.mon, .int .i64 f.first, .int .i64 f.last, .int .i64 f.count, .slice Ap f.frame.length cp, .bool f.active] 46) := ⟨_, rfl⟩
      have hB2 : Below w1.heap.size w1 w2 := by rw [hw2]; exact hbw.alloc hbw.size _
      have hh2 : w2.heap[wr.heap.size]? = some (.cells #[.int .i64 f.mon, .int .i64 f.first, .int .i64 f.last, .int .i64 f.count, .slice Ap f.frame.length cp, .bool f.active] 46 (0, 0)) := by rw [hw2]; exact heap_alloc_new wr _
      have hBW2 : Below w.heap.size w w2 := hb1.trans (hB2.mono (by omega))
      have hs2 : w2.heap.size = wr.heap.size + 1 := by rw [hw2]; simp
      have hfr2 : IntsA w2 w.heap.size Ap f.frame := hfr.keep (by rw [hw2]; exact (Below.refl _ _).alloc hBW.size _)
      have hprev : 0 < k → w2.cell? ⟨bb, off + (k - 1) * 6, none⟩ = some (.int .i64 p) := fun e => by
        obtain ⟨f', b', off', Ap', cp', hg', hAe', hbb', c0', _⟩ := (hC.keep hBW2).at_ (show k - 1 < s.ks.length by omega)
        injection hAe' with hAe'
        injection hAe' with e1 e2
        subst e1
        subst e2
        rw [c0', ← hg', ← hp]
        unfold prevM
        rw [if_neg (by omega)]
      have HPREV := Lib.hid hprev
      clear hprev
      have HPP := Lib.hid hpp
      have HBQ : Hid (∀ n, Below w2.heap.size w2 (w2.drewN n)) := fun n => ⟨rfl, rfl, rfl, Nat.le_refl _, fun _ _ => rfl⟩
      have q0 := row_cell hh2 0
      have d3 := (bcell hB2 w.heap.size 3 (by omega)).trans g3
      simp only [List.getElem?_toArray, List.getElem?_cons_zero] at q0
      have hwf2 := hw2.symm
      obtain ⟨z1, hz1⟩ : ∃ y, inB f.mon 0 ((l.length : Int) - 1) = y := ⟨_, rfl⟩
      obtain ⟨z2, hz2⟩ : ∃ y, (decide (0 < k) && decide (f.mon ≤ p)) = y := ⟨_, rfl⟩
      obtain ⟨z3, hz3⟩ : ∃ y, inB f.last 0 (t - 1) = y := ⟨_, rfl⟩
      obtain ⟨z4, hz4⟩ : ∃ y, inB f.first 0 f.last = y := ⟨_, rfl⟩
      obtain ⟨z5, hz5⟩ : ∃ y, inB f.count 1 1000 = y := ⟨_, rfl⟩
      obtain ⟨z6, hz6⟩ : ∃ y, lawB l f.frame = y := ⟨_, rfl⟩
      have HCK : Hid (codeOk l t (prevM s.ks k) (s.ks.getD k dCode) = (z1 && (!z2 && (z3 && (z4 && (z5 && z6)))))) := by show _ = _; rw [hg, hp, codeOk_ref l t p f hpp, hz1, hz2, hz3, hz4, hz5, hz6]
      have Z1 := Lib.hid hz1
      have Z2 := Lib.hid hz2
      have Z3 := Lib.hid hz3
      have Z4 := Lib.hid hz4
      have Z5 := Lib.hid hz5
      have HL6 := Lib.hid hz6
      have HFR2 := Lib.hid hfr2
      have HBW2 := Lib.hid hBW2
      have HB2 := Lib.hid hB2
      have HH2 := Lib.hid hh2
      have HLT := Lib.hid hlt
      have hfail : codeOk l t (prevM s.ks k) (s.ks.getD k dCode) = false → b = false := fun hf => by rw [← HB.out, ← Y3.out, show codesOk l t s.ks = false from range_no HLT.out hf]; rfl
      have HFA := Lib.hid hfail
      clear hfail hz1 hz2 hz3 hz4 hz5 hz6 hw2 hfr2 hfr hg hp hBW2 hB2 hh2 hBW hpp
      rcases z1 with _ | _
      · go_wp2_with fail
        go_quiet ((go_at_call 63; exact quiet_w (rwithin_b _ _ _ _ _ Z1.out)))
        go_wp2_with fail
        go_ret
        exact ⟨ret_b (HFA.out (by rw [HCK.out]; rfl)).symm, HBW2.out.trans ((HBQ.out nq).mono HBW2.out.size)⟩
      · by_cases hk0 : 0 < k
        · have hpv := HPREV.out hk0
          have hk0' : decide ((0 : Int) < (k : Int)) = true := decide_eq_true (by omega)
          obtain ⟨zz, hzz⟩ : ∃ y, decide (f.mon ≤ p) = y := ⟨_, rfl⟩
          have Z2' : Hid (z2 = zz) := by show _ = _; rw [← Z2.out, decide_eq_true hk0, hzz]; rfl
          rcases zz with _ | _
          rotate_left
          · go_wp2_with fail
            go_quiet ((go_at_call 63; exact quiet_w (rwithin_b _ _ _ _ _ Z1.out)))
            go_wp2_with fail
            go_ret
            exact ⟨ret_b (HFA.out (by rw [HCK.out, Z2'.out]; rfl)).symm, HBW2.out.trans ((HBQ.out nq).mono HBW2.out.size)⟩
          go_wp2_with fail
          go_quiet ((go_at_call 63; exact quiet_w (rwithin_b _ _ _ _ _ Z1.out)))
          have hB3 := HBQ.out nq
          have hsw2 := HBW2.out.size
          have hBW3 : Below w.heap.size w (w2.drewN nq) := HBW2.out.trans (hB3.mono hsw2)
          have hBX3 : Below w1.heap.size w1 (w2.drewN nq) := HB2.out.trans (hB3.mono (by have := HB2.out.size; omega))
          have hh3 : (w2.drewN nq).heap[wr.heap.size]? = some (.cells #[.int .i64 f.mon, .int .i64 f.first, .int .i64 f.last, .int .i64 f.count, .slice Ap f.frame.length cp, .bool f.active] 46 (0, 0)) := HH2.out
          have hs3 : (w2.drewN nq).heap.size = wr.heap.size + 1 := hs2
          have hFR3 : IntsA (w2.drewN nq) w.heap.size Ap f.frame := HFR2.out.drewN nq
          clear q0 d3 HBQ HB2 HBW2 HH2 hs2 hwf2 HFR2 HPREV hB3 hpv
          generalize w2.drewN nq = w3 at *
          have q1 := row_cell hh3 1
          have q2 := row_cell hh3 2
          have q3 := row_cell hh3 3
          have q4 := row_cell hh3 4
          simp only [List.getElem?_toArray, List.getElem?_cons_succ, List.getElem?_cons_zero] at q1 q2 q3 q4
          have d0 := (bcell hBX3 w.heap.size 0 (by omega)).trans g0
          have Z6 := Lib.hid (rlaw_any A cap l Ap cp f.frame w3 ((h.keep hBW3).more hBW3.size) (hFR3.more hBW3.size) HL6.out)
          have HBX3 := Lib.hid hBX3
          have HBW3 := Lib.hid hBW3
          clear hBX3 hBW3 hFR3 hh3
          rcases z3 with _ | _
          · go_wp2_with (first | (go_at_call 63; (with_reducible refine (rwithin_b f.last _ _ _ _ Z3.out).mono ?_); rintro e w' ⟨rfl, rfl⟩))
            go_ret
            exact ⟨ret_b (HFA.out (by rw [HCK.out, Z2'.out]; rfl)).symm, HBW3.out⟩
          rcases z4 with _ | _
          · go_wp2_with (first | (go_at_call 63; (with_reducible refine (rwithin_b f.last _ _ _ _ Z3.out).mono ?_); rintro e w' ⟨rfl, rfl⟩) | (go_at_call 63; (with_reducible refine (rwithin_b f.first _ _ _ _ Z4.out).mono ?_); rintro e w' ⟨rfl, rfl⟩))
            go_ret
            exact ⟨ret_b (HFA.out (by rw [HCK.out, Z2'.out]; rfl)).symm, HBW3.out⟩
          rcases z5 with _ | _
          · go_wp2_with (first | (go_at_call 63; (with_reducible refine (rwithin_b f.last _ _ _ _ Z3.out).mono ?_); rintro e w' ⟨rfl, rfl⟩) | (go_at_call 63; (with_reducible refine (rwithin_b f.first _ _ _ _ Z4.out).mono ?_); rintro e w' ⟨rfl, rfl⟩) | (go_at_call 63; (with_reducible refine (rwithin_b f.count _ _ _ _ Z5.out).mono ?_); rintro e w' ⟨rfl, rfl⟩))
            go_ret
            exact ⟨ret_b (HFA.out (by rw [HCK.out, Z2'.out]; rfl)).symm, HBW3.out⟩
          rcases z6 with _ | _
          · go_wp2_with (first | (go_at_call 63; (with_reducible refine (rwithin_b f.last _ _ _ _ Z3.out).mono ?_); rintro e w' ⟨rfl, rfl⟩) | (go_at_call 63; (with_reducible refine (rwithin_b f.first _ _ _ _ Z4.out).mono ?_); rintro e w' ⟨rfl, rfl⟩) | (go_at_call 63; (with_reducible refine (rwithin_b f.count _ _ _ _ Z5.out).mono ?_); rintro e w' ⟨rfl, rfl⟩) | (go_at_call 54; refine Z6.out.mono ?_; rintro e w4 ⟨rfl, hb4⟩))
            go_ret
            exact ⟨ret_b (HFA.out (by rw [HCK.out, Z2'.out]; rfl)).symm, HBW3.out.trans (hb4.mono HBW3.out.size)⟩
          · go_wp2_with (first | (go_at_call 63; (with_reducible refine (rwithin_b f.last _ _ _ _ Z3.out).mono ?_); rintro e w' ⟨rfl, rfl⟩) | (go_at_call 63; (with_reducible refine (rwithin_b f.first _ _ _ _ Z4.out).mono ?_); rintro e w' ⟨rfl, rfl⟩) | (go_at_call 63; (with_reducible refine (rwithin_b f.count _ _ _ _ Z5.out).mono ?_); rintro e w' ⟨rfl, rfl⟩) | (go_at_call 54; refine Z6.out.mono ?_; rintro e w4 ⟨rfl, hb4⟩))
            go_roundw
            case rel =>
              refine ⟨k + 1, by omega, by go_num, fun j hj => ?_, HBX3.out.trans (hb4.mono HBX3.out.size)⟩
              rcases Nat.lt_or_ge j k with hh | hh
              · exact HI.out j hh
              · obtain rfl : j = k := by omega
                rw [HCK.out, Z2'.out]; rfl
            case measure => simp [intOf]; omega
        · have hk0' : decide ((0 : Int) < (k : Int)) = false := decide_eq_false (by omega)
          have Z2' : Hid (z2 = false) := by show _ = _; rw [← Z2.out, decide_eq_false hk0]; rfl
          go_wp2_with fail
          go_quiet ((go_at_call 63; exact quiet_w (rwithin_b _ _ _ _ _ Z1.out)))
          have hB3 := HBQ.out nq
          have hsw2 := HBW2.out.size
          have hBW3 : Below w.heap.size w (w2.drewN nq) := HBW2.out.trans (hB3.mono hsw2)
          have hBX3 : Below w1.heap.size w1 (w2.drewN nq) := HB2.out.trans (hB3.mono (by have := HB2.out.size; omega))
          have hh3 : (w2.drewN nq).heap[wr.heap.size]? = some (.cells #[.int .i64 f.mon, .int .i64 f.first, .int .i64 f.last, .int .i64 f.count, .slice Ap f.frame.length cp, .bool f.active] 46 (0, 0)) := HH2.out
          have hs3 : (w2.drewN nq).heap.size = wr.heap.size + 1 := hs2
          have hFR3 : IntsA (w2.drewN nq) w.heap.size Ap f.frame := HFR2.out.drewN nq
          clear q0 d3 HBQ HB2 HBW2 HH2 hs2 hwf2 HFR2 HPREV hB3 
          generalize w2.drewN nq = w3 at *
          have q1 := row_cell hh3 1
          have q2 := row_cell hh3 2
          have q3 := row_cell hh3 3
          have q4 := row_cell hh3 4
          simp only [List.getElem?_toArray, List.getElem?_cons_succ, List.getElem?_cons_zero] at q1 q2 q3 q4
          have d0 := (bcell hBX3 w.heap.size 0 (by omega)).trans g0
          have Z6 := Lib.hid (rlaw_any A cap l Ap cp f.frame w3 ((h.keep hBW3).more hBW3.size) (hFR3.more hBW3.size) HL6.out)
          have HBX3 := Lib.hid hBX3
          have HBW3 := Lib.hid hBW3
          clear hBX3 hBW3 hFR3 hh3
          rcases z3 with _ | _
          · go_wp2_with (first | (go_at_call 63; (with_reducible refine (rwithin_b f.last _ _ _ _ Z3.out).mono ?_); rintro e w' ⟨rfl, rfl⟩))
            go_ret
            exact ⟨ret_b (HFA.out (by rw [HCK.out, Z2'.out]; rfl)).symm, HBW3.out⟩
          rcases z4 with _ | _
          · go_wp2_with (first | (go_at_call 63; (with_reducible refine (rwithin_b f.last _ _ _ _ Z3.out).mono ?_); rintro e w' ⟨rfl, rfl⟩) | (go_at_call 63; (with_reducible refine (rwithin_b f.first _ _ _ _ Z4.out).mono ?_); rintro e w' ⟨rfl, rfl⟩))
            go_ret
            exact ⟨ret_b (HFA.out (by rw [HCK.out, Z2'.out]; rfl)).symm, HBW3.out⟩
          rcases z5 with _ | _
          · go_wp2_with (first | (go_at_call 63; (with_reducible refine (rwithin_b f.last _ _ _ _ Z3.out).mono ?_); rintro e w' ⟨rfl, rfl⟩) | (go_at_call 63; (with_reducible refine (rwithin_b f.first _ _ _ _ Z4.out).mono ?_); rintro e w' ⟨rfl, rfl⟩) | (go_at_call 63; (with_reducible refine (rwithin_b f.count _ _ _ _ Z5.out).mono ?_); rintro e w' ⟨rfl, rfl⟩))
            go_ret
            exact ⟨ret_b (HFA.out (by rw [HCK.out, Z2'.out]; rfl)).symm, HBW3.out⟩
          rcases z6 with _ | _
          · go_wp2_with (first | (go_at_call 63; (with_reducible refine (rwithin_b f.last _ _ _ _ Z3.out).mono ?_); rintro e w' ⟨rfl, rfl⟩) | (go_at_call 63; (with_reducible refine (rwithin_b f.first _ _ _ _ Z4.out).mono ?_); rintro e w' ⟨rfl, rfl⟩) | (go_at_call 63; (with_reducible refine (rwithin_b f.count _ _ _ _ Z5.out).mono ?_); rintro e w' ⟨rfl, rfl⟩) | (go_at_call 54; refine Z6.out.mono ?_; rintro e w4 ⟨rfl, hb4⟩))
            go_ret
            exact ⟨ret_b (HFA.out (by rw [HCK.out, Z2'.out]; rfl)).symm, HBW3.out.trans (hb4.mono HBW3.out.size)⟩
          · go_wp2_with (first | (go_at_call 63; (with_reducible refine (rwithin_b f.last _ _ _ _ Z3.out).mono ?_); rintro e w' ⟨rfl, rfl⟩) | (go_at_call 63; (with_reducible refine (rwithin_b f.first _ _ _ _ Z4.out).mono ?_); rintro e w' ⟨rfl, rfl⟩) | (go_at_call 63; (with_reducible refine (rwithin_b f.count _ _ _ _ Z5.out).mono ?_); rintro e w' ⟨rfl, rfl⟩) | (go_at_call 54; refine Z6.out.mono ?_; rintro e w4 ⟨rfl, hb4⟩))
            go_roundw
            case rel =>
              refine ⟨k + 1, by omega, by go_num, fun j hj => ?_, HBX3.out.trans (hb4.mono HBX3.out.size)⟩
              rcases Nat.lt_or_ge j k with hh | hh
              · exact HI.out j hh
              · obtain rfl : j = k := by omega
                rw [HCK.out, Z2'.out]; rfl
            case measure => simp [intOf]; omega
    · obtain rfl : k = s.ks.length := by omega
      have hy3 : y3 = true := by rw [← Y3.out]; exact range_yes HI.out
      subst hy3
      have hasc := codesOk_asc hl20 HI.out
      have HAS := Lib.hid hasc
      clear hasc
      have HI1 := Lib.hid hI1
      have HI2 := Lib.hid hI2
      have HCC := Lib.hid hC
      have HMON := Lib.hid h
      clear hI1 hI2 hC h HI
      go_wp2_with fail
      go_loopw [7] (fun vi wr => ∃ i : Nat, i ≤ l.length ∧ vi = .int .i64 i ∧ Hid (∀ j, j < i → perOk l s j = true) ∧ Below w1.heap.size w1 wr) (fun vi _ => l.length - (intOf vi).toNat)
      case atStart => exact ⟨0, Nat.zero_le _, rfl, (fun j hj => by omega), hbw⟩
      case round =>
        clear hbw hlt hk e3 hBW
        obtain ⟨i, hi, rfl, HI, hbw⟩ := hrel
        have hBW : Below w.heap.size w wr := hb1.trans (hbw.mono (by omega))
        by_cases hlt : i < l.length
        · obtain ⟨m, bb, off, ht, hAe, hblt, t0, t1, t2, t3, t4, t5, t6⟩ := (HMON.out.keep hBW).at_ hlt
          have hmd : l.getD i dMon = m := by rw [List.getD_eq_getElem?_getD, ht]; rfl
          have hmbd := monB_bounds (mon_ok hmb ht).1
          have HT := Lib.hid ht
          obtain ⟨n, hn⟩ : ∃ n, s.ns.getD i 0 = n := ⟨_, rfl⟩
          obtain ⟨c, hc⟩ : ∃ c, s.cs.getD i 0 = c := ⟨_, rfl⟩
          obtain ⟨ba, oa, hAc, _, n0⟩ := (HI1.out.keep hBW).at_ (show i < s.ns.length by rw [E1.out]; exact hlt)
          obtain ⟨bk, ok, hAk, _, k0⟩ := (HI2.out.keep hBW).at_ (show i < s.cs.length by rw [E2.out]; exact hlt)
          rw [hn] at n0
          rw [hc] at k0
          have d1 := (bcell hbw w.heap.size 1 (by omega)).trans g1
          have d2 := (bcell hbw w.heap.size 2 (by omega)).trans g2
          have en1 : (i : Int) < s.ns.length := by have := E1.out; omega
          have en2 : (i : Int) < s.cs.length := by have := E2.out; omega
          have HLT := Lib.hid hlt
          have HBQ : Hid (∀ n, Below wr.heap.size wr (wr.drewN n)) := fun n => ⟨rfl, rfl, rfl, Nat.le_refl _, fun _ _ => rfl⟩
          have hfail : perOk l s i = false → b = false := fun hf => by rw [← HB.out, ← Y4.out, show persOk l s = false from range_no HLT.out hf]; simp
          have HFA := Lib.hid hfail
          subst hAc
          subst hAk
          subst hAe
          obtain ⟨z0, hz0⟩ : ∃ y, inB n 0 m.limit = y := ⟨_, rfl⟩
          obtain ⟨z1, hz1⟩ : ∃ y, inB c 0 (m.heal - 1) = y := ⟨_, rfl⟩
          have hf := find_S HAS.out (i : Int)
          obtain ⟨ix, hix⟩ : ∃ ix, findS s.ks (i : Int) = ix := ⟨_, rfl⟩
          obtain ⟨has, hhas⟩ : ∃ has, hasS s.ks (i : Int) = has := ⟨_, rfl⟩
          obtain ⟨z2, hz2⟩ : ∃ y, (n == 0) = y := ⟨_, rfl⟩
          obtain ⟨z3, hz3⟩ : ∃ y, decide (0 < c) = y := ⟨_, rfl⟩
          obtain ⟨z4, hz4⟩ : ∃ y, (n == m.limit) = y := ⟨_, rfl⟩
          obtain ⟨act, hact⟩ : ∃ y, (s.ks.getD ix dCode).active = y := ⟨_, rfl⟩
          have hz20 : z0 = true → decide (n < 1) = z2 := fun e => by
            rw [← hz2]
            have := hz0.trans e
            unfold inB at this
            simp only [Bool.and_eq_true, decide_eq_true_eq] at this
            by_cases hq : n = 0
            · rw [decide_eq_true (by omega), hq]; rfl
            · rw [decide_eq_false (by omega), beq_eq_false_iff_ne.2 hq]
          have HPK : Hid (perOk l s i = (z0 && (z1 && (if (has && act) = true then (!decide (n < 1) && !z3) else (!z4 && (has || !z3)))))) := by
            show _ = _
            unfold perOk actS
            rw [hmd, hn, hc, hz0, hz1, hhas, hix, hact, hz3, hz4]
          rw [hix, hhas] at hf
          have HF := Lib.hid hf
          have Z0 := Lib.hid hz0
          have Z1 := Lib.hid hz1
          have Z20 := Lib.hid hz20
          have HACT := Lib.hid hact
          have HBW := Lib.hid hBW
          have HMD := Lib.hid hmd
          have HN := Lib.hid hn
          have HCV := Lib.hid hc
          clear hz0 hz1 hix hhas hf hact hz20 hfail hBW hmd hn hc ht
          rcases z0 with _ | _
          · go_wp2_with fail
            go_quiet (first | (go_at_call 63; with_reducible exact quiet_w (rwithin_b n _ _ _ _ Z0.out)))
            go_wp2_with fail
            go_ret
            exact ⟨ret_b (HFA.out (by rw [HPK.out]; rfl)).symm, HBW.out.trans ((HBQ.out nq).mono HBW.out.size)⟩
          rcases z1 with _ | _
          · go_wp2_with fail
            go_quiet (first | (go_at_call 63; with_reducible exact quiet_w (rwithin_b n _ _ _ _ Z0.out)) | (go_at_call 63; with_reducible exact quiet_w (rwithin_b c _ _ _ _ Z1.out)))
            go_wp2_with fail
            go_ret
            exact ⟨ret_b (HFA.out (by rw [HPK.out]; rfl)).symm, HBW.out.trans ((HBQ.out nq).mono HBW.out.size)⟩
          have Z2 := Z20.out rfl
          go_wp2_with fail
          go_quiet (first | (go_at_call 63; with_reducible exact quiet_w (rwithin_b n _ _ _ _ Z0.out)) | (go_at_call 63; with_reducible exact quiet_w (rwithin_b c _ _ _ _ Z1.out)))
          have hB3 := HBQ.out nq
          have hBX3 : Below w1.heap.size w1 (wr.drewN nq) := hbw.trans (hB3.mono hbw.size)
          have hBW3 : Below w.heap.size w (wr.drewN nq) := HBW.out.trans (hB3.mono HBW.out.size)
          clear n0 k0 d1 d2 t0 t1 t2 t3 t4 t5 t6 HBQ HBW hbw hB3
          generalize wr.drewN nq = w3 at *
          have hsz3 := hBW3.size
          have hsx3 := hBX3.size
          have d0 := (bcell hBX3 w.heap.size 0 (by omega)).trans g0
          have d1 := (bcell hBX3 w.heap.size 1 (by omega)).trans g1
          have d2 := (bcell hBX3 w.heap.size 2 (by omega)).trans g2
          have d3 := (bcell hBX3 w.heap.size 3 (by omega)).trans g3
          have hC9 := index_any t (.slice (some ⟨ba, oa, none⟩) s.ns.length cc) (.slice (some ⟨bk, ok, none⟩) s.cs.length ck) Av cv s.ks i w3 ((HCC.out.keep hBW3).more hsz3) HAS.out HF.out
          have hR9 : ∀ w4, Below w3.heap.size w3 w4 → w4.cell? ⟨w.heap.size, 1, none⟩ = some (.slice (some ⟨ba, oa, none⟩) s.ns.length cc) ∧ w4.cell? ⟨w.heap.size, 2, none⟩ = some (.slice (some ⟨bk, ok, none⟩) s.cs.length ck) ∧ w4.cell? ⟨w.heap.size, 3, none⟩ = some (.slice Av s.ks.length cv) ∧
              w4.cell? ⟨ba, oa + i, none⟩ = some (.int .i64 n) ∧ w4.cell? ⟨bk, ok + i, none⟩ = some (.int .i64 c) ∧ w4.cell? ⟨bb, off + i * 7 + 5, none⟩ = some (.int .i64 m.limit) ∧ (∀ nq, Below w.heap.size w (w4.drewN nq)) ∧ (∀ nq, Below w1.heap.size w1 (w4.drewN nq)) := fun w4 hb4 => by
            have hbw4 : Below w.heap.size w w4 := hBW3.trans (hb4.mono hsz3)
            have hbx4 : Below w1.heap.size w1 w4 := hBX3.trans (hb4.mono hsx3)
            refine ⟨(bcell hb4 w.heap.size 1 (by omega)).trans d1, (bcell hb4 w.heap.size 2 (by omega)).trans d2, (bcell hb4 w.heap.size 3 (by omega)).trans d3, ?_, ?_, (HMON.out.keep hbw4).get HT.out 5 (by decide), fun nq => ⟨hbw4.os, hbw4.tape, hbw4.output, hbw4.size, hbw4.block⟩, fun nq => ⟨hbx4.os, hbx4.tape, hbx4.output, hbx4.size, hbx4.block⟩⟩
            · obtain ⟨b1, o1, e, _, x⟩ := (HI1.out.keep hbw4).at_ (show i < s.ns.length by rw [E1.out]; exact HLT.out)
              injection e with e
              injection e with e1 e2
              subst e1
              subst e2
              rw [x, HN.out]
            · obtain ⟨b1, o1, e, _, x⟩ := (HI2.out.keep hbw4).at_ (show i < s.cs.length by rw [E2.out]; exact HLT.out)
              injection e with e
              injection e with e1 e2
              subst e1
              subst e2
              rw [x, HCV.out]
          have HR9 := Lib.hid hR9
          have HCN : Hid (∀ w4, Below w3.heap.size w3 w4 → CodesA w4 w.heap.size Av s.ks) := fun w4 hb4 => HCC.out.keep (hBW3.trans (hb4.mono hsz3))
          have hit : ∀ j, perOk l s i = true → j < i + 1 → perOk l s j = true := fun j hp hj => by
            rcases Nat.lt_or_ge j i with hh | hh
            · exact HI.out j hh
            · obtain rfl : j = i := by omega
              exact hp
          have HIT := Lib.hid hit
          clear hit hR9
          rcases has with _ | _
          · rw [show idxAt ix false = -1 from rfl] at hC9
            have HC9 := Lib.hid hC9
            clear hC9
            rcases z4 with _ | _
            · rcases z3 with _ | _
              · go_wp2_with (go_at_call 74; refine HC9.out.mono ?_; rintro e w4 ⟨rfl, hb4⟩; have HB4 := Lib.hid hb4)
                have r9 := HR9.out w4 hb4
                obtain ⟨r1, r2, r3, rn, rk, rl, hfw, hfx⟩ := r9
                have HFW := Lib.hid hfw
                have HFX := Lib.hid hfx
                clear hfw hfx hb4
                go_wp2_with fail
                go_quiet (fail)
                go_wp2_with fail
                go_roundw
                case rel => exact ⟨i + 1, by omega, by go_num, fun j hj => HIT.out j (by rw [HPK.out]; rfl) hj, HFX.out nq⟩
                case measure => simp [intOf]; omega
              · go_wp2_with (go_at_call 74; refine HC9.out.mono ?_; rintro e w4 ⟨rfl, hb4⟩; have HB4 := Lib.hid hb4)
                have r9 := HR9.out w4 hb4
                obtain ⟨r1, r2, r3, rn, rk, rl, hfw, hfx⟩ := r9
                have HFW := Lib.hid hfw
                have HFX := Lib.hid hfx
                clear hfw hfx hb4
                go_wp2_with fail
                go_quiet (fail)
                go_wp2_with fail
                go_ret
                exact ⟨ret_b (HFA.out (by rw [HPK.out]; rfl)).symm, HFW.out nq⟩
            · go_wp2_with (go_at_call 74; refine HC9.out.mono ?_; rintro e w4 ⟨rfl, hb4⟩; have HB4 := Lib.hid hb4)
              have r9 := HR9.out w4 hb4
              obtain ⟨r1, r2, r3, rn, rk, rl, hfw, hfx⟩ := r9
              have HFW := Lib.hid hfw
              have HFX := Lib.hid hfx
              clear hfw hfx hb4
              go_wp2_with fail
              go_quiet (fail)
              go_wp2_with fail
              go_ret
              exact ⟨ret_b (HFA.out (by rw [HPK.out]; rfl)).symm, HFW.out nq⟩
          · rw [show idxAt ix true = (ix : Int) from rfl] at hC9
            have HC9 := Lib.hid hC9
            clear hC9
            have hixl := (HF.out.2.2.2.1 rfl).1
            have hx0 : decide ((ix : Int) < 0) = false := decide_eq_false (by omega)
            have HIXL := Lib.hid hixl
            rcases act with _ | _
            · rcases z4 with _ | _
              · go_wp2_with (go_at_call 74; refine HC9.out.mono ?_; rintro e w4 ⟨rfl, hb4⟩; have HB4 := Lib.hid hb4; obtain ⟨r1, r2, r3, rn, rk, rl, hfw, hfx⟩ := HR9.out w4 hb4; have HFW := Lib.hid hfw; have HFX := Lib.hid hfx; obtain ⟨f, bc, oc, Ap, cp, hg, hAv, hlt9, _, _, _, _, _, c5, _, _⟩ := (HCN.out w4 hb4).at_ HIXL.out; subst hAv; rw [show f.active = _ from hg ▸ HACT.out] at c5; have HG9 := Lib.hid hg; clear hfw hfx hb4 hg)
                go_quiet (fail)
                go_wp2_with fail
                go_roundw
                case rel => exact ⟨i + 1, by omega, by go_num, fun j hj => HIT.out j (by rw [HPK.out]; rfl) hj, HFX.out nq⟩
                case measure => simp [intOf]; omega
              · go_wp2_with (go_at_call 74; refine HC9.out.mono ?_; rintro e w4 ⟨rfl, hb4⟩; have HB4 := Lib.hid hb4; obtain ⟨r1, r2, r3, rn, rk, rl, hfw, hfx⟩ := HR9.out w4 hb4; have HFW := Lib.hid hfw; have HFX := Lib.hid hfx; obtain ⟨f, bc, oc, Ap, cp, hg, hAv, hlt9, _, _, _, _, _, c5, _, _⟩ := (HCN.out w4 hb4).at_ HIXL.out; subst hAv; rw [show f.active = _ from hg ▸ HACT.out] at c5; have HG9 := Lib.hid hg; clear hfw hfx hb4 hg)
                go_quiet (fail)
                go_wp2_with fail
                go_ret
                exact ⟨ret_b (HFA.out (by rw [HPK.out]; rfl)).symm, HFW.out nq⟩
            · rcases z2 with _ | _
              · rcases z3 with _ | _
                · go_wp2_with (go_at_call 74; refine HC9.out.mono ?_; rintro e w4 ⟨rfl, hb4⟩; have HB4 := Lib.hid hb4; obtain ⟨r1, r2, r3, rn, rk, rl, hfw, hfx⟩ := HR9.out w4 hb4; have HFW := Lib.hid hfw; have HFX := Lib.hid hfx; obtain ⟨f, bc, oc, Ap, cp, hg, hAv, hlt9, _, _, _, _, _, c5, _, _⟩ := (HCN.out w4 hb4).at_ HIXL.out; subst hAv; rw [show f.active = _ from hg ▸ HACT.out] at c5; have HG9 := Lib.hid hg; clear hfw hfx hb4 hg)
                  go_quiet (fail)
                  go_wp2_with fail
                  go_roundw
                  case rel => exact ⟨i + 1, by omega, by go_num, fun j hj => HIT.out j (by rw [HPK.out, Z2]; rfl) hj, HFX.out nq⟩
                  case measure => simp [intOf]; omega
                · go_wp2_with (go_at_call 74; refine HC9.out.mono ?_; rintro e w4 ⟨rfl, hb4⟩; have HB4 := Lib.hid hb4; obtain ⟨r1, r2, r3, rn, rk, rl, hfw, hfx⟩ := HR9.out w4 hb4; have HFW := Lib.hid hfw; have HFX := Lib.hid hfx; obtain ⟨f, bc, oc, Ap, cp, hg, hAv, hlt9, _, _, _, _, _, c5, _, _⟩ := (HCN.out w4 hb4).at_ HIXL.out; subst hAv; rw [show f.active = _ from hg ▸ HACT.out] at c5; have HG9 := Lib.hid hg; clear hfw hfx hb4 hg)
                  go_quiet (fail)
                  go_wp2_with fail
                  go_ret
                  exact ⟨ret_b (HFA.out (by rw [HPK.out, Z2]; rfl)).symm, HFW.out nq⟩
              · go_wp2_with (go_at_call 74; refine HC9.out.mono ?_; rintro e w4 ⟨rfl, hb4⟩; have HB4 := Lib.hid hb4; obtain ⟨r1, r2, r3, rn, rk, rl, hfw, hfx⟩ := HR9.out w4 hb4; have HFW := Lib.hid hfw; have HFX := Lib.hid hfx; obtain ⟨f, bc, oc, Ap, cp, hg, hAv, hlt9, _, _, _, _, _, c5, _, _⟩ := (HCN.out w4 hb4).at_ HIXL.out; subst hAv; rw [show f.active = _ from hg ▸ HACT.out] at c5; have HG9 := Lib.hid hg; clear hfw hfx hb4 hg)
                go_quiet (fail)
                go_wp2_with fail
                go_ret
                exact ⟨ret_b (HFA.out (by rw [HPK.out, Z2]; rfl)).symm, HFW.out nq⟩
        · obtain rfl : i = l.length := by omega
          go_wp2_with fail
          go_ret
          exact ⟨ret_b (by rw [← HB.out, ← Y4.out, show persOk l s = true from range_yes HI.out]; rfl), hb1.trans (hbw.mono (by omega))⟩
end Go.Proofs.YtonpemikodajdaaDoor
