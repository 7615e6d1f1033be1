/- Walks: diagnose.CheckCase. -/
import Derived.Test.YtonpemikodajdaaDoorCs2
namespace Go.Proofs.YtonpemikodajdaaDoor
open Go.RowKit

def checkC (c : MCase) : Int := if caseB c = true then 0 else 101
theorem checkC_no {c : MCase} (h : caseB c = false) : checkC c = 101 := by unfold checkC; rw [h]; rfl
theorem checkC_yes {c : MCase} (h : caseB c = true) : checkC c = 0 := by unfold checkC; rw [h]; rfl
theorem caseB_len {c : MCase} (h : inB c.weights.length 1 12 = false) : caseB c = false := by unfold caseB; rw [h]; rfl
theorem caseB_many {c : MCase} (h : 12 < c.tests.length) : caseB c = false := by unfold caseB; rw [decide_eq_false (by omega)]; simp
theorem caseB_ws {c : MCase} (h : c.weights.all b1000 = false) : caseB c = false := by unfold caseB; rw [h]; simp
theorem caseB_ts {c : MCase} {k : Nat} {t : MProbe} (hk : c.tests[k]? = some t) (h : probeB c.weights.length t = false) : caseB c = false := by
  unfold caseB; rw [all_no hk h]; simp
theorem caseB_yes {c : MCase} (h1 : inB c.weights.length 1 12 = true) (h2 : c.tests.length ≤ 12) (h3 : c.weights.all b1000 = true) (h4 : ∀ (j : Nat) (t : MProbe), j < c.tests.length → c.tests[j]? = some t → probeB c.weights.length t = true) : caseB c = true := by
  unfold caseB; rw [h1, h3, decide_eq_true h2, all_yes h4]; rfl
theorem probeB_cost {n : Nat} {t : MProbe} (h : inB t.cost 0 1000 = false) : probeB n t = false := by
  have : b1000 t.cost = false := h
  unfold probeB; rw [this]; rfl
theorem probeB_len {n : Nat} {t : MProbe} (h : t.outs.length ≠ n) : probeB n t = false := by unfold probeB; rw [decide_eq_false h]; simp
theorem probeB_outs {n : Nat} {t : MProbe} (h : t.outs.all b3 = false) : probeB n t = false := by unfold probeB; rw [h]; simp
theorem probeB_yes {n : Nat} {t : MProbe} (h1 : inB t.cost 0 1000 = true) (h2 : t.outs.length = n) (h3 : t.outs.all b3 = true) : probeB n t = true := by
  have : b1000 t.cost = true := h1
  unfold probeB; rw [this, h3, decide_eq_true h2]; rfl
set_option maxRecDepth 100000 in
set_option maxHeartbeats 1000000 in
theorem check_any (A1 A2 : Option Addr) (c1 c2 : Nat) (c : MCase) (w : World) (h : CaseA w w.heap.size A1 A2 c) {r : Int} (hr : checkC c = r) :
    Calls Tryd.prog 27 #[.agg #[.slice A1 c.weights.length c1, .slice A2 c.tests.length c2]] w fun e w' => e = .returned (.int .i64 r) ∧ Below w.heap.size w w' := by
  have hlw := h.ws.1
  have hlt := h.ln
  unfold maxLen at hlw hlt
  have hb0 : Below w.heap.size w (w.alloc (.cells #[.slice A1 c.weights.length c1, .slice A2 c.tests.length c2] 36)) := (Below.refl _ _).alloc (Nat.le_refl _) _
  have n0 := newcell w #[.slice A1 c.weights.length c1, .slice A2 c.tests.length c2] 36 0
  have n1 := newcell w #[.slice A1 c.weights.length c1, .slice A2 c.tests.length c2] 36 1
  simp only [List.getElem?_toArray, List.getElem?_cons_succ, List.getElem?_cons_zero] at n0 n1
  have HR := Lib.hid hr
  clear hr
  rcases hx0 : inB c.weights.length 1 12
  · have X0 := Lib.hid hx0
    clear hx0
    go_enter Tryd.func27, Tryd.ntmps27
    go_wp2_with (go_at_call 66; refine (within_b _ _ _ _ _ X0.out).mono ?_; rintro e w' ⟨rfl, rfl⟩)
    go_ret
    exact ⟨ret_i (by rw [← HR.out, checkC_no (caseB_len X0.out)]), hb0⟩
  · have X0 := Lib.hid hx0
    clear hx0
    by_cases hm : 12 < c.tests.length
    · go_enter Tryd.func27, Tryd.ntmps27
      go_wp2_with (go_at_call 66; refine (within_b _ _ _ _ _ X0.out).mono ?_; rintro e w' ⟨rfl, rfl⟩)
      go_ret
      exact ⟨ret_i (by rw [← HR.out, checkC_no (caseB_many hm)]), hb0⟩
    · rcases hx1 : c.weights.all b1000
      · have X1 := Lib.hid hx1
        clear hx1
        have HC := Lib.hid (con68 A1 c1 c.weights (w.alloc (.cells #[.slice A1 c.weights.length c1, .slice A2 c.tests.length c2] 36)) w.heap.size (h.ws.keep hb0) X1.out)
        go_enter Tryd.func27, Tryd.ntmps27
        go_wp2_with (first | (go_at_call 66; refine (within_b _ _ _ _ _ X0.out).mono ?_; rintro e w' ⟨rfl, rfl⟩) | (go_at_call 67; refine HC.out.mono ?_; rintro e w' ⟨rfl, rfl⟩))
        go_ret
        exact ⟨ret_i (by rw [← HR.out, checkC_no (caseB_ws X1.out)]), hb0⟩
      · have X1 := Lib.hid hx1
        clear hx1
        have HC := Lib.hid (con68 A1 c1 c.weights (w.alloc (.cells #[.slice A1 c.weights.length c1, .slice A2 c.tests.length c2] 36)) w.heap.size (h.ws.keep hb0) X1.out)
        go_enter Tryd.func27, Tryd.ntmps27
        go_wp2_with (first | (go_at_call 66; refine (within_b _ _ _ _ _ X0.out).mono ?_; rintro e w' ⟨rfl, rfl⟩) | (go_at_call 67; refine HC.out.mono ?_; rintro e w' ⟨rfl, rfl⟩))
        have hsz : w.heap.size < (w.alloc (.cells #[.slice A1 c.weights.length c1, .slice A2 c.tests.length c2] 36)).heap.size := by simp
        generalize hW : w.alloc (.cells #[.slice A1 c.weights.length c1, .slice A2 c.tests.length c2] 36) = W0 at *
        clear hW HC
        go_loopw [24] (fun vi wr => ∃ k : Nat, k ≤ c.tests.length ∧ vi = .int .i64 k ∧ Hid (∀ (j : Nat) (t : MProbe), j < k → c.tests[j]? = some t → probeB c.weights.length t = true) ∧ Below W0.heap.size W0 wr) (fun vi _ => c.tests.length - (intOf vi).toNat)
        case atStart => exact ⟨0, Nat.zero_le _, rfl, fun j t hj => by omega, Below.refl _ _⟩
        case round =>
          obtain ⟨k, hk, rfl, HI, hbw⟩ := hrel
          have hbz := hb0.trans (hbw.mono (Nat.le_of_lt hsz))
          have hsw := hbw.size
          by_cases hlt2 : k < c.tests.length
          · obtain ⟨t, b, off, Ap, cp, ht, rfl, hblt, t0, t1, _, htp⟩ := (h.ts.below hbz (Nat.le_refl _)).at_ hlt2
            have HT := Lib.hid ht
            clear ht
            have hlo := htp.1
            unfold maxLen at hlo
            have m0 := (bcell hbw w.heap.size 0 hsz).trans n0
            have hb1 : Below w.heap.size w (wr.alloc (.cells #[.int .i64 t.cost, .slice Ap t.outs.length cp] 50)) := hbz.alloc (by omega) _
            have hb2 : Below W0.heap.size W0 (wr.alloc (.cells #[.int .i64 t.cost, .slice Ap t.outs.length cp] 50)) := hbw.alloc hsw _
            have q0 := newcell wr #[.int .i64 t.cost, .slice Ap t.outs.length cp] 50 0
            have q1 := newcell wr #[.int .i64 t.cost, .slice Ap t.outs.length cp] 50 1
            simp only [List.getElem?_toArray, List.getElem?_cons_succ, List.getElem?_cons_zero] at q0 q1
            have m1 := (acell wr (.cells #[.int .i64 t.cost, .slice Ap t.outs.length cp] 50) w.heap.size 0 (by omega)).trans m0
            rcases hy0 : inB t.cost 0 1000
            · have Y0 := Lib.hid hy0
              clear hy0
              go_wp2_with (go_at_call 66; refine (within_b _ _ _ _ _ Y0.out).mono ?_; rintro e w' ⟨rfl, rfl⟩)
              go_ret
              exact ⟨ret_i (by rw [← HR.out, checkC_no (caseB_ts HT.out (probeB_cost Y0.out))]), hb1⟩
            · have Y0 := Lib.hid hy0
              clear hy0
              by_cases hol : t.outs.length = c.weights.length
              · have hne : ((t.outs.length : Int) != (c.weights.length : Int)) = false := by rw [hol]; simp
                have HOL := Lib.hid hol
                clear hol
                rcases hy1 : t.outs.all b3
                all_goals
                  have Y1 := Lib.hid hy1
                  clear hy1
                  have HC2 := Lib.hid (con69 Ap cp t.outs (wr.alloc (.cells #[.int .i64 t.cost, .slice Ap t.outs.length cp] 50)) w.heap.size (htp.alloc (by omega) _ (Nat.le_refl _)) Y1.out)
                  go_wp2_with (first | (go_at_call 66; refine (within_b _ _ _ _ _ Y0.out).mono ?_; rintro e w' ⟨rfl, rfl⟩) | (go_at_call 67; refine HC2.out.mono ?_; rintro e w' ⟨rfl, rfl⟩))
                · go_ret
                  exact ⟨ret_i (by rw [← HR.out, checkC_no (caseB_ts HT.out (probeB_outs Y1.out))]), hb1⟩
                · go_roundw
                  case rel => exact ⟨k + 1, by omega, by go_num, upto_snoc HI.out HT.out (probeB_yes Y0.out HOL.out Y1.out), hb2⟩
                  case measure => simp [intOf]; omega
              · have hne : ((t.outs.length : Int) != (c.weights.length : Int)) = true := by rw [bne_iff_ne]; omega
                go_wp2_with (go_at_call 66; refine (within_b _ _ _ _ _ Y0.out).mono ?_; rintro e w' ⟨rfl, rfl⟩)
                go_ret
                exact ⟨ret_i (by rw [← HR.out, checkC_no (caseB_ts HT.out (probeB_len hol))]), hb1⟩
          · obtain rfl : k = c.tests.length := by omega
            go_wp2_with fail
            go_ret
            exact ⟨ret_i (by rw [← HR.out, checkC_yes (caseB_yes X0.out (by omega) X1.out HI.out)]), hbz⟩
end Go.Proofs.YtonpemikodajdaaDoor
