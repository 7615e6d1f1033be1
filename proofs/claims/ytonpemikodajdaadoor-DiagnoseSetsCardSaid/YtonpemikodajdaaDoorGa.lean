/- Walks: the reference's CheckCase, alike, the closure; sets in a row of one's own. -/
import Derived.Test.YtonpemikodajdaaDoorCs
import Derived.Deep.RegionHeld3
import Derived.Deep.Cut
import Derived.Test.YtonpemikodajdaaDoorBa
/- Walk: the reference's CheckCase. -/
namespace Go.Proofs.YtonpemikodajdaaDoor
open Go.RowKit

theorem getD_some {l : List Int} {k : Nat} (hk : k < l.length) : l[k]? = some (l.getD k 0) := by
  rw [List.getD_eq_getElem?_getD, List.getElem?_eq_getElem hk]; rfl
theorem caseB_w {c : MCase} {k : Nat} {x : Int} (hk : c.weights[k]? = some x) (h : b1000 x = false) : caseB c = false := by
  unfold caseB
  rw [all_no hk h]; simp
set_option maxRecDepth 100000 in
set_option maxHeartbeats 4000000 in
theorem rccheck_any (A1 A2 : Option Addr) (c1 c2 : Nat) (c : MCase) (w : World) (h : CaseA w w.heap.size A1 A2 c) {r : Int} (hr : checkC c = r) :
    Calls Tryd.prog 28 #[.agg #[.slice A1 c.weights.length c1, .slice A2 c.tests.length c2]] w fun e w' => e = .returned (.int .i64 r) ∧ Below w.heap.size w w' := by
  have hlw := h.ws.1
  have hlt' := h.ln
  unfold maxLen at hlw hlt'
  have hb1 : Below w.heap.size w (w.alloc (.cells #[.slice A1 c.weights.length c1, .slice A2 c.tests.length c2] 36)) := (Below.refl _ _).alloc (Nat.le_refl _) _
  have hsz : (w.alloc (.cells #[.slice A1 c.weights.length c1, .slice A2 c.tests.length c2] 36)).heap.size = w.heap.size + 1 := by simp
  have n0 := newcell w #[.slice A1 c.weights.length c1, .slice A2 c.tests.length c2] 36 0
  have n1 := newcell w #[.slice A1 c.weights.length c1, .slice A2 c.tests.length c2] 36 1
  simp only [List.getElem?_toArray, List.getElem?_cons_succ, List.getElem?_cons_zero] at n0 n1
  have hno : caseB c = false → r = 101 := fun h => by rw [← hr, checkC_no h]
  have HNO := Lib.hid hno
  have HR := Lib.hid hr
  have hrd : ∀ wx, Below (w.heap.size + 1) (w.alloc (.cells #[.slice A1 c.weights.length c1, .slice A2 c.tests.length c2] 36)) wx → wx.cell? ⟨w.heap.size, 0, none⟩ = some (.slice A1 c.weights.length c1) ∧ wx.cell? ⟨w.heap.size, 1, none⟩ = some (.slice A2 c.tests.length c2) := fun wx hb => ⟨(bcell hb _ _ (by omega)).trans n0, (bcell hb _ _ (by omega)).trans n1⟩
  have HRD := Lib.hid hrd
  clear hr hno hrd
  rcases hy0 : inB c.weights.length 1 12
  · have H0 := Lib.hid hy0
    clear hy0
    go_enter Tryd.func28, Tryd.ntmps28
    go_wp2_with (go_at_call 63; refine (rwithin_b _ _ _ _ _ H0.out).mono ?_; rintro e w2 ⟨rfl, rfl⟩)
    go_ret
    exact ⟨ret_i (HNO.out (caseB_len H0.out)).symm, hb1⟩
  · have H0 := Lib.hid hy0
    clear hy0
    by_cases hm : 12 < c.tests.length
    · go_enter Tryd.func28, Tryd.ntmps28
      go_wp2_with (go_at_call 63; refine (rwithin_b _ _ _ _ _ H0.out).mono ?_; rintro e w2 ⟨rfl, rfl⟩)
      go_ret
      exact ⟨ret_i (HNO.out (caseB_many hm)).symm, hb1⟩
    · have hm12 : c.tests.length ≤ 12 := by omega
      go_enter Tryd.func28, Tryd.ntmps28
      go_wp2_with (go_at_call 63; refine (rwithin_b _ _ _ _ _ H0.out).mono ?_; rintro e w2 ⟨rfl, rfl⟩)
      clear n0 n1
      go_loopw [3, 2] (fun vi v2 wr => ∃ k : Nat, k ≤ c.weights.length ∧ vi = .int .i64 k ∧ v2 = .int .i64 0 ∧ Hid (∀ (j : Nat) (x : Int), j < k → c.weights[j]? = some x → b1000 x = true) ∧ Hid (Below (w.heap.size + 1) (w.alloc (.cells #[.slice A1 c.weights.length c1, .slice A2 c.tests.length c2] 36)) wr)) (fun vi _ _ => c.weights.length - (intOf vi).toNat)
      case atStart => exact ⟨0, Nat.zero_le _, rfl, rfl, (fun j x hj => by omega), Below.refl _ _⟩
      case round =>
        obtain ⟨k, hk, rfl, rfl, HI, HB⟩ := hrel
        obtain ⟨p0, p1⟩ := HRD.out wr HB.out
        by_cases hlt : k < c.weights.length
        · obtain ⟨b, off, rfl, hbl, t0⟩ := (h.ws.keep (hb1.trans (HB.out.mono (by omega)))).at_ hlt
          have HG := Lib.hid (getD_some hlt)
          generalize c.weights.getD k 0 = x at *
          rcases hx : b1000 x
          · have HX := Lib.hid hx
            clear hx
            go_wp2_with (go_at_call 63; refine (rwithin_b _ _ _ _ _ HX.out).mono ?_; rintro e w3 ⟨rfl, rfl⟩)
            go_ret
            exact ⟨ret_i (HNO.out (caseB_w HG.out HX.out)).symm, hb1.trans (HB.out.mono (by omega))⟩
          · have HX := Lib.hid hx
            clear hx
            go_wp2_with (go_at_call 63; refine (rwithin_b _ _ _ _ _ HX.out).mono ?_; rintro e w3 ⟨rfl, rfl⟩)
            go_roundw
            case rel => exact ⟨k + 1, by omega, by go_num, rfl, upto_snoc HI.out HG.out HX.out, HB⟩
            case measure => simp [intOf]; omega
        · obtain rfl : k = c.weights.length := by omega
          have HW : Hid (c.weights.all b1000 = true) := all_yes HI.out
          clear HI
          go_wp2_with fail
          go_loopw [4, 2] (fun vi v2 wq => ∃ k : Nat, k ≤ c.tests.length ∧ vi = .int .i64 k ∧ v2 = .int .i64 0 ∧ Hid (∀ (j : Nat) (t : MProbe), j < k → c.tests[j]? = some t → probeB c.weights.length t = true) ∧ Hid (Below (w.heap.size + 1) (w.alloc (.cells #[.slice A1 c.weights.length c1, .slice A2 c.tests.length c2] 36)) wq)) (fun vi _ _ => c.tests.length - (intOf vi).toNat)
          case atStart => exact ⟨0, Nat.zero_le _, rfl, rfl, (fun j x hj => by omega), HB⟩
          case round =>
            obtain ⟨wq, rfl⟩ : ∃ wq : World, wq = wr := ⟨_, rfl⟩
            obtain ⟨k, hk, rfl, rfl, HI, HB2⟩ := hrel
            obtain ⟨z0, z1⟩ := HRD.out wq HB2.out
            have hbz := hb1.trans (HB2.out.mono (by omega))
            have hsw := HB2.out.size
            by_cases hlt2 : k < c.tests.length
            · obtain ⟨t, b, off, Ap, cp, ht, rfl, hblt, t0, t1, _, htp⟩ := (h.ts.below hbz (Nat.le_refl _)).at_ hlt2
              have HT := Lib.hid ht
              have HTP := Lib.hid htp
              have hlo := htp.1
              unfold maxLen at hlo
              have HB3 := Lib.hid (HB2.out.alloc (by omega) (Obj.cells #[.int .i64 t.cost, .slice Ap t.outs.length cp] 50))
              have q0 := newcell wq #[.int .i64 t.cost, .slice Ap t.outs.length cp] 50 0
              have q1 := newcell wq #[.int .i64 t.cost, .slice Ap t.outs.length cp] 50 1
              simp only [List.getElem?_toArray, List.getElem?_cons_succ, List.getElem?_cons_zero] at q0 q1
              obtain ⟨s0, s1⟩ := HRD.out _ HB3.out
              clear ht htp
              rcases hy0 : inB t.cost 0 1000
              · have Y0 := Lib.hid hy0
                clear hy0
                go_wp2_with (go_at_call 63; refine (rwithin_b _ _ _ _ _ Y0.out).mono ?_; rintro e w' ⟨rfl, rfl⟩)
                go_ret
                exact ⟨ret_i (HNO.out (caseB_ts HT.out (probeB_cost Y0.out))).symm, hb1.trans (HB3.out.mono (by omega))⟩
              · have Y0 := Lib.hid hy0
                clear hy0
                by_cases hol : t.outs.length = c.weights.length
                · have hne : ((t.outs.length : Int) != (c.weights.length : Int)) = false := by rw [hol]; simp
                  have HOL := Lib.hid hol
                  clear hol
                  go_wp2_with (go_at_call 63; refine (rwithin_b _ _ _ _ _ Y0.out).mono ?_; rintro e w' ⟨rfl, rfl⟩)
                  go_loopw [6, 2] (fun vi v2 wv => ∃ i : Nat, i ≤ t.outs.length ∧ vi = .int .i64 i ∧ v2 = .int .i64 0 ∧ Hid (∀ (j : Nat) (x : Int), j < i → t.outs[j]? = some x → b3 x = true) ∧ Hid (Below (wq.heap.size + 1) (wq.alloc (.cells #[.int .i64 t.cost, .slice Ap t.outs.length cp] 50)) wv)) (fun vi _ _ => t.outs.length - (intOf vi).toNat)
                  case atStart => exact ⟨0, Nat.zero_le _, rfl, rfl, (fun j x hj => by omega), Below.refl _ _⟩
                  case round =>
                    obtain ⟨wv, rfl⟩ : ∃ wv : World, wv = wr := ⟨_, rfl⟩
                    obtain ⟨i, hi, rfl, rfl, HI2, HB4⟩ := hrel
                    have HB5 := Lib.hid (HB3.out.trans (HB4.out.mono (by omega)))
                    have v1 := (bcell HB4.out wq.heap.size 1 (by omega)).trans q1
                    by_cases hlt3 : i < t.outs.length
                    · obtain ⟨bo, oo, rfl, hbo, g0⟩ := (HTP.out.below (((Below.refl w.heap.size wq).alloc (by omega) _).trans (HB4.out.mono (by omega))) (Nat.le_refl _)).at_ hlt3
                      have HG := Lib.hid (getD_some hlt3)
                      generalize t.outs.getD i 0 = x at *
                      rcases hx : b3 x
                      all_goals
                        have HX := Lib.hid hx
                        clear hx
                        go_wp2_with (go_at_call 63; refine (rwithin_b _ _ _ _ _ HX.out).mono ?_; rintro e w3 ⟨rfl, rfl⟩)
                      · go_ret
                        exact ⟨ret_i (HNO.out (caseB_ts HT.out (probeB_outs (all_no HG.out HX.out)))).symm, hb1.trans (HB5.out.mono (by omega))⟩
                      · go_roundw
                        case rel => exact ⟨i + 1, by omega, by go_num, rfl, upto_snoc HI2.out HG.out HX.out, HB4⟩
                        case measure => simp [intOf]; omega
                    · obtain rfl : i = t.outs.length := by omega
                      go_wp2_with fail
                      go_roundw
                      case rel => exact ⟨k + 1, by omega, by go_num, rfl, upto_snoc HI.out HT.out (probeB_yes Y0.out HOL.out (all_yes HI2.out)), HB5⟩
                      case measure => simp [intOf]; omega
                · have hne : ((t.outs.length : Int) != (c.weights.length : Int)) = true := by rw [bne_iff_ne]; omega
                  go_wp2_with (go_at_call 63; refine (rwithin_b _ _ _ _ _ Y0.out).mono ?_; rintro e w' ⟨rfl, rfl⟩)
                  go_ret
                  exact ⟨ret_i (HNO.out (caseB_ts HT.out (probeB_len hol))).symm, hb1.trans (HB3.out.mono (by omega))⟩
            · obtain rfl : k = c.tests.length := by omega
              go_wp2_with fail
              go_ret
              exact ⟨ret_i (by rw [← HR.out, checkC_yes (caseB_yes H0.out hm12 HW.out HI.out)]), hbz⟩
end Go.Proofs.YtonpemikodajdaaDoor

/- Walks: alike, and the closure that groups asks with. -/
namespace Go.Proofs.YtonpemikodajdaaDoor
open Go.RowKit

/-- no test but one (-1: none) tells some of a set apart -/
def alikeTo (c : MCase) (s : Nat) (out : Int) (k : Nat) : Prop := ∀ (i : Nat) (t : MProbe), i < k → c.tests[i]? = some t → (i : Int) = out ∨ partsTo t.outs s 4 ≤ 1
def alikeB (c : MCase) (s : Nat) (out : Int) : Bool := (List.range c.tests.length).all fun i => decide ((i : Int) = out) || decide (partsTo (c.tests.getD i ⟨0, []⟩).outs s 4 ≤ 1)
theorem alikeB_iff {c : MCase} {s : Nat} {out : Int} : alikeB c s out = true ↔ alikeTo c s out c.tests.length := by
  unfold alikeB alikeTo
  rw [List.all_eq_true]
  constructor
  · intro h i t hi ht
    have h1 := h i (List.mem_range.2 hi)
    rw [List.getD_eq_getElem?_getD, ht, Bool.or_eq_true, decide_eq_true_eq, decide_eq_true_eq] at h1
    exact h1
  · intro h i hi
    have hi := List.mem_range.1 hi
    have ht : c.tests[i]? = some c.tests[i] := List.getElem?_eq_getElem hi
    rw [List.getD_eq_getElem?_getD, ht, Bool.or_eq_true, decide_eq_true_eq, decide_eq_true_eq]
    exact h i _ hi ht
theorem nat_snoc_alike {c : MCase} {s : Nat} {out : Int} {k : Nat} {t : MProbe} (h : alikeTo c s out k) (ht : c.tests[k]? = some t) (hk : (k : Int) = out ∨ partsTo t.outs s 4 ≤ 1) : alikeTo c s out (k + 1) := fun i t' hi ht' => by
  rcases Nat.lt_or_ge i k with hlt | hge
  · exact h i t' hlt ht'
  · obtain rfl : i = k := by omega
    rw [ht] at ht'
    injection ht' with ht'
    subst ht'
    exact hk
theorem partsTo_le (outs : List Int) (s : Nat) : ∀ o, partsTo outs s o ≤ o
  | 0 => Nat.le_refl 0
  | o + 1 => by
    have := partsTo_le outs s o
    unfold partsTo
    split <;> omega
set_option maxRecDepth 100000 in
set_option maxHeartbeats 4000000 in
theorem alike_any (A1 A2 : Option Addr) (c1 c2 : Nat) (c : MCase) (s : Nat) (out : Int) (w : World) (h : CaseA w w.heap.size A1 A2 c) (hT : TabW w) (hc : caseB c = true) (hs : s < 2 ^ c.weights.length) {r : Bool} (hr : alikeB c s out = r) :
    Calls Tryd.prog 102 #[.agg #[.slice A1 c.weights.length c1, .slice A2 c.tests.length c2], .int .u64 s, .int .i64 out] w fun e w' => e = .returned (.bool r) ∧ Below w.heap.size w w' := by
  have hok := caseOk hc
  have hlt' := h.ln
  unfold maxLen at hlt'
  have hb1 : Below w.heap.size w (w.alloc (.cells #[.slice A1 c.weights.length c1, .slice A2 c.tests.length c2] 36)) := (Below.refl _ _).alloc (Nat.le_refl _) _
  have hsz : (w.alloc (.cells #[.slice A1 c.weights.length c1, .slice A2 c.tests.length c2] 36)).heap.size = w.heap.size + 1 := by simp
  have n1 := newcell w #[.slice A1 c.weights.length c1, .slice A2 c.tests.length c2] 36 1
  simp only [List.getElem?_toArray, List.getElem?_cons_succ, List.getElem?_cons_zero] at n1
  have HR := Lib.hid hr
  have HOK := Lib.hid hok
  have HTB := Lib.hid hT
  have hm12 := hok.t
  clear hr hok hT hc
  go_enter Tryd.func102, Tryd.ntmps102
  go_wp2_with fail
  clear n1
  go_loopw [14] (fun vi wr => ∃ k : Nat, k ≤ c.tests.length ∧ vi = .int .i64 k ∧ Hid (alikeTo c s out k) ∧ Hid (Below w.heap.size w wr)) (fun vi _ => c.tests.length - (intOf vi).toNat)
  case atStart => exact ⟨0, Nat.zero_le _, rfl, (fun i t hi => by omega), hb1⟩
  case round =>
    obtain ⟨k, hk, rfl, HI, HB⟩ := hrel
    have hsw := HB.out.size
    by_cases hlt : k < c.tests.length
    · obtain ⟨t, b, off, Ap, cp, ht, rfl, hblt, t0, t1, _, htp⟩ := (h.ts.below HB.out (Nat.le_refl _)).at_ hlt
      have HT := Lib.hid ht
      have hp := HOK.out.p k t ht
      have q0 := newcell wr #[.int .i64 t.cost, .slice Ap t.outs.length cp] 50 0
      have q1 := newcell wr #[.int .i64 t.cost, .slice Ap t.outs.length cp] 50 1
      simp only [List.getElem?_toArray, List.getElem?_cons_succ, List.getElem?_cons_zero] at q0 q1
      have hb2 : Below w.heap.size w (wr.alloc (.cells #[.int .i64 t.cost, .slice Ap t.outs.length cp] 50)) := HB.out.alloc hsw _
      obtain ⟨x0, hx0⟩ : ∃ x, partS t.outs s 0 = x := ⟨_, rfl⟩
      obtain ⟨x1, hx1⟩ : ∃ x, partS t.outs s 1 = x := ⟨_, rfl⟩
      obtain ⟨x2, hx2⟩ : ∃ x, partS t.outs s 2 = x := ⟨_, rfl⟩
      obtain ⟨x3, hx3⟩ : ∃ x, partS t.outs s 3 = x := ⟨_, rfl⟩
      obtain ⟨R, hR⟩ : ∃ x, partsTo t.outs s 4 = x := ⟨_, rfl⟩
      have HSP := Lib.hid (split_any t Ap cp s c.weights.length (wr.alloc (.cells #[.int .i64 t.cost, .slice Ap t.outs.length cp] 50)) (HTB.out.keep hb2) ((htp.below ((Below.refl w.heap.size wr).alloc hsw (.cells #[.int .i64 t.cost, .slice Ap t.outs.length cp] 50)) (Nat.le_refl _)).more (by simp; omega)) hp.2.1 HOK.out.n2 hp.2.2 hs hx0 hx1 hx2 hx3 hR)
      have hR4 : R ≤ 4 := by rw [← hR]; exact partsTo_le _ _ _
      have HRR := Lib.hid hR
      have HB2 := Lib.hid hb2
      have hsz2 : (wr.alloc (.cells #[.int .i64 t.cost, .slice Ap t.outs.length cp] 50)).heap.size = wr.heap.size + 1 := by simp
      clear hx0 hx1 hx2 hx3 hR ht htp hp hb2
      by_cases h1 : (k : Int) = out
      · have f1 : ((k : Int) != out) = false := by simpa using h1
        have H1 := Lib.hid h1
        clear h1
        go_wp2_with (go_at_call 94; refine HSP.out.mono ?_; rintro e w2 ⟨rfl, hb3⟩; have HB3 := Lib.hid hb3; clear hb3)
        go_roundw
        case rel => exact ⟨k + 1, by omega, by go_num, nat_snoc_alike HI.out HT.out (.inl H1.out), (HB2.out.trans (HB3.out.mono (by omega))).alloc (by have := HB3.out.size; omega) _⟩
        case measure => simp [intOf]; omega
      · have f1 : ((k : Int) != out) = true := by simpa using h1
        have H1 : Hid (¬ (k : Int) = out) := h1
        clear h1
        by_cases h2 : 1 < R
        · have H2 := Lib.hid h2
          have f2 : decide ((1 : Int) < (R : Int)) = true := decide_eq_true (by omega)
          clear h2
          go_wp2_with (go_at_call 94; refine HSP.out.mono ?_; rintro e w2 ⟨rfl, hb3⟩; have HB3 := Lib.hid hb3; clear hb3)
          go_ret
          refine ⟨ret_b ?_, (HB2.out.trans (HB3.out.mono (by omega))).alloc (by have := HB3.out.size; omega) _⟩
          rw [← HR.out]
          rcases hal : alikeB c s out
          · rfl
          · rcases alikeB_iff.1 hal k t hlt HT.out with e | e
            · exact absurd e H1.out
            · rw [HRR.out] at e
              have := H2.out
              omega
        · have H2 : Hid (¬ 1 < R) := h2
          have f2 : decide ((1 : Int) < (R : Int)) = false := decide_eq_false (by omega)
          clear h2
          go_wp2_with (go_at_call 94; refine HSP.out.mono ?_; rintro e w2 ⟨rfl, hb3⟩; have HB3 := Lib.hid hb3; clear hb3)
          go_roundw
          case rel => exact ⟨k + 1, by omega, by go_num, nat_snoc_alike HI.out HT.out (.inr (by rw [HRR.out]; have := H2.out; omega)), (HB2.out.trans (HB3.out.mono (by omega))).alloc (by have := HB3.out.size; omega) _⟩
          case measure => simp [intOf]; omega
    · obtain rfl : k = c.tests.length := by omega
      go_wp2_with fail
      go_ret
      refine ⟨ret_b ?_, HB.out⟩
      rw [← HR.out]
      exact (alikeB_iff.2 HI.out).symm
end Go.Proofs.YtonpemikodajdaaDoor

/- Walks: the closure that groups asks with, and the first set that it takes. -/
namespace Go.Proofs.YtonpemikodajdaaDoor
open Go.RowKit

/-- what the closure sees: the case's box, the suspect's, the test's -/
structure CapA (w : World) (cb ib ob : Nat) (A1 A2 : Option Addr) (c1 c2 : Nat) (c : MCase) (i : Nat) (out : Int) : Prop where
  lt : cb < w.heap.size ∧ ib < w.heap.size ∧ ob < w.heap.size
  k0 : w.cell? ⟨cb, 0, none⟩ = some (.slice A1 c.weights.length c1)
  k1 : w.cell? ⟨cb, 1, none⟩ = some (.slice A2 c.tests.length c2)
  ki : w.cell? ⟨ib, 0, none⟩ = some (.int .i64 i)
  ko : w.cell? ⟨ob, 0, none⟩ = some (.int .i64 out)
theorem CapA.below {w w' : World} {cb ib ob : Nat} {A1 A2 : Option Addr} {c1 c2 : Nat} {c : MCase} {i : Nat} {out : Int} (h : CapA w cb ib ob A1 A2 c1 c2 c i out) (hb : Below w.heap.size w w') : CapA w' cb ib ob A1 A2 c1 c2 c i out :=
  ⟨by have := hb.size; have := h.lt; omega, (bcell hb _ _ h.lt.1).trans h.k0, (bcell hb _ _ h.lt.1).trans h.k1, (bcell hb _ _ h.lt.2.1).trans h.ki, (bcell hb _ _ h.lt.2.2).trans h.ko⟩
set_option maxRecDepth 100000 in
set_option maxHeartbeats 4000000 in
theorem clo101 (cb ib ob : Nat) (A1 A2 : Option Addr) (c1 c2 : Nat) (c : MCase) (i s : Nat) (out : Int) (w : World) (hp : CapA w cb ib ob A1 A2 c1 c2 c i out) (h : CaseA w w.heap.size A1 A2 c) (hT : TabW w) (hc : caseB c = true) (hi : i < c.weights.length) (hs : s < 2 ^ c.weights.length) {r : Bool} (hr : alikeB c (s ||| 2 ^ i) out = r) :
    Calls Tryd.prog 101 #[.int .u64 s, .pointer (some ⟨cb, 0, none⟩), .pointer (some ⟨ib, 0, none⟩), .pointer (some ⟨ob, 0, none⟩)] w fun e w' => e = .returned (.bool r) ∧ Below w.heap.size w w' := by
  have hok := caseOk hc
  have hn12 := hok.n2
  have hlt := hp.lt
  have h12 : 2 ^ c.weights.length ≤ 2 ^ 12 := Nat.pow_le_pow_right (by omega) hn12
  have hq12 : 2 ^ i < 4096 := by
    have : 2 ^ i < 2 ^ 12 := Nat.pow_lt_pow_right (by omega) (by omega)
    exact this
  have hs12 : s < 4096 := by omega
  have hor : s ||| 2 ^ i < 2 ^ c.weights.length := Nat.or_lt_two_pow hs (Nat.pow_lt_pow_right (by omega) hi)
  have hcast : ((2 : Int) ^ i) = ((2 ^ i : Nat) : Int) := by simp
  have hw1 : Below w.heap.size w w.drew := (Below.refl w.heap.size w).drew
  have HC := Lib.hid (alike_any A1 A2 c1 c2 c (s ||| 2 ^ i) out w.drew ((h.keep hw1).more hw1.size) (hT.keep hw1) hc hor hr)
  generalize (2 ^ i : Nat) = q at *
  have e1 : IntKind.u64.wrap ((2 : Int) ^ i) = (q : Int) := by rw [hcast]; exact IntWalk.u64_in _ (by omega)
  have e2 : bits BinOp.or IntKind.u64 (s : Int) (q : Int) = ((s ||| q : Nat) : Int) := u64_or_nat _ _ (by omega) (by omega)
  have HS0 : Hid ((w.drew.cell? ⟨cb, 0, none⟩ = some (.slice A1 c.weights.length c1) ∧ w.drew.cell? ⟨cb, 1, none⟩ = some (.slice A2 c.tests.length c2)) ∧ w.drew.cell? ⟨ib, 0, none⟩ = some (.int .i64 i) ∧ w.drew.cell? ⟨ob, 0, none⟩ = some (.int .i64 out)) := ⟨⟨hp.k0, hp.k1⟩, hp.ki, hp.ko⟩
  have HP := Lib.hid hp
  clear hcast hr hok hp
  generalize s ||| q = u at *
  go_enter Tryd.func101, Tryd.ntmps101
  go_upto_region 1 with fail
  go_region_held3 (fun w' => (w'.cell? ⟨cb, 0, none⟩ = some (.slice A1 c.weights.length c1) ∧ w'.cell? ⟨cb, 1, none⟩ = some (.slice A2 c.tests.length c2)) ∧ w'.cell? ⟨ib, 0, none⟩ = some (.int .i64 i) ∧ w'.cell? ⟨ob, 0, none⟩ = some (.int .i64 out)) (first | exact HS0.out | exact HS2.out | assumption) ((go_at_call 102; refine HC.out.mono ?_; rintro e w2 ⟨rfl, hb2⟩; have HB2 : Hid (Below w.heap.size w w2) := hw1.trans (hb2.mono (Nat.le_refl _)); have HP2 := Lib.hid (HP.out.below HB2.out); have HS2 : Hid ((w2.cell? ⟨cb, 0, none⟩ = some (.slice A1 c.weights.length c1) ∧ w2.cell? ⟨cb, 1, none⟩ = some (.slice A2 c.tests.length c2)) ∧ w2.cell? ⟨ib, 0, none⟩ = some (.int .i64 i) ∧ w2.cell? ⟨ob, 0, none⟩ = some (.int .i64 out)) := ⟨⟨HP2.out.k0, HP2.out.k1⟩, HP2.out.ki, HP2.out.ko⟩; clear hb2))
  go_wp2_with fail
  go_ret
  exact ⟨rfl, HB2.out⟩
/-- sets of suspects in memory -/
def MasksA (w : World) (B : Nat) (A : Option Addr) (L : List Nat) : Prop :=
  L.length ≤ maxLen ∧ (0 < L.length → ∃ b off, A = some ⟨b, off, none⟩ ∧ b < B ∧ ∀ i, i < L.length → w.cell? ⟨b, off + i, none⟩ = some (.int .u64 ((L.getD i 0 : Nat) : Int)))
theorem MasksA.at_ {w : World} {B : Nat} {A : Option Addr} {L : List Nat} (h : MasksA w B A L) {k : Nat} (hk : k < L.length) : ∃ b off, A = some ⟨b, off, none⟩ ∧ b < B ∧ w.cell? ⟨b, off + k, none⟩ = some (.int .u64 ((L.getD k 0 : Nat) : Int)) := by
  obtain ⟨b, off, hA, hlt, hc⟩ := h.2 (by omega)
  exact ⟨b, off, hA, hlt, hc k hk⟩
theorem MasksA.keep {w w' : World} {B : Nat} {A : Option Addr} {L : List Nat} (h : MasksA w B A L) (hb : Below B w w') : MasksA w' B A L := ⟨h.1, fun hn => by
  obtain ⟨b, off, hA, hlt, hc⟩ := h.2 hn
  exact ⟨b, off, hA, hlt, fun i hi => (bcell hb _ _ hlt).trans (hc i hi)⟩⟩
/-- the first of some sets, or none -/
def IdxP (p : Nat → Bool) (L : List Nat) (r : Int) : Prop := (∃ k : Nat, r = k ∧ k < L.length ∧ p (L.getD k 0) = true ∧ ∀ j, j < k → p (L.getD j 0) = false) ∨ (r = -1 ∧ ∀ j, j < L.length → p (L.getD j 0) = false)
set_option maxRecDepth 100000 in
set_option maxHeartbeats 4000000 in
theorem idx100 (cb ib ob : Nat) (A1 A2 : Option Addr) (c1 c2 : Nat) (c : MCase) (i : Nat) (out : Int) (A : Option Addr) (cap : Nat) (L : List Nat) (w : World) (hp : CapA w cb ib ob A1 A2 c1 c2 c i out) (h : CaseA w w.heap.size A1 A2 c) (hT : TabW w) (hc : caseB c = true) (hi : i < c.weights.length) (hL : MasksA w w.heap.size A L) (hs : ∀ j, j < L.length → L.getD j 0 < 2 ^ c.weights.length) :
    Calls Tryd.prog 100 #[.slice A L.length cap, .func (.func 101) #[] #[.pointer (some ⟨cb, 0, none⟩), .pointer (some ⟨ib, 0, none⟩), .pointer (some ⟨ob, 0, none⟩)]] w fun e w' => (∃ r : Int, e = .returned (.int .i64 r) ∧ IdxP (fun m => alikeB c (m ||| 2 ^ i) out) L r) ∧ Below w.heap.size w w' := by
  have hlen := hL.1
  unfold maxLen at hlen
  have HP := Lib.hid hp
  have HT := Lib.hid hT
  have HC := Lib.hid hc
  have HS := Lib.hid hs
  clear hp hT hc hs
  go_enter Tryd.func100, Tryd.ntmps100
  go_wp2_with fail
  go_loopw [8] (fun vi wr => ∃ k : Nat, k ≤ L.length ∧ vi = .int .i64 k ∧ Hid (∀ j, j < k → alikeB c (L.getD j 0 ||| 2 ^ i) out = false) ∧ Below w.heap.size w wr) (fun vi _ => L.length - (intOf vi).toNat)
  case atStart => exact ⟨0, Nat.zero_le _, rfl, (fun j hj => by omega), Below.refl _ _⟩
  case round =>
    obtain ⟨k, hk, rfl, HI, hbw⟩ := hrel
    by_cases hlt : k < L.length
    · obtain ⟨b, off, rfl, hblt, t0⟩ := (hL.keep hbw).at_ hlt
      have HSK := Lib.hid (HS.out k hlt)
      obtain ⟨m, hm⟩ : ∃ m, L.getD k 0 = m := ⟨_, rfl⟩
      have HM := Lib.hid hm
      rw [hm] at t0
      obtain ⟨y, hx⟩ : ∃ y, alikeB c (L.getD k 0 ||| 2 ^ i) out = y := ⟨_, rfl⟩
      have HX := Lib.hid hx
      have HCL : Hid (Calls Tryd.prog 101 #[.int .u64 m, .pointer (some ⟨cb, 0, none⟩), .pointer (some ⟨ib, 0, none⟩), .pointer (some ⟨ob, 0, none⟩)] wr fun e w' => e = .returned (.bool y) ∧ Below wr.heap.size wr w') := by
        have h9 := clo101 cb ib ob A1 A2 c1 c2 c i (L.getD k 0) out wr (HP.out.below hbw) ((h.keep hbw).more hbw.size) (HT.out.keep hbw) HC.out hi HSK.out hx
        rw [hm] at h9
        exact h9
      clear hx hm
      rcases y with _ | _
      all_goals
        go_wp2_with (go_at_call 101; refine HCL.out.mono ?_; rintro e w2 ⟨rfl, hb2⟩)
      · go_roundw
        case rel => exact ⟨k + 1, by omega, by go_num, nat_snoc HI.out HX.out, hbw.trans (hb2.mono hbw.size)⟩
        case measure => simp [intOf]; omega
      · go_ret
        exact ⟨⟨k, rfl, .inl ⟨k, rfl, hlt, HX.out, HI.out⟩⟩, hbw.trans (hb2.mono hbw.size)⟩
    · obtain rfl : k = L.length := by omega
      go_wp2_with fail
      go_ret
      exact ⟨⟨-1, rfl, .inr ⟨rfl, HI.out⟩⟩, hbw⟩
end Go.Proofs.YtonpemikodajdaaDoor

/- Sets of suspects in a row of the call's own: append, store, read; the plain groups. -/
namespace Go.Proofs.YtonpemikodajdaaDoor
open Go.RowKit

def OutU (w : World) (base : Nat) (v : Value) (L : List Nat) : Prop := w.ownsRow base 97 1 v L.length (L.map fun m : Nat => .int .u64 (m : Int))
theorem OutU.nil (w : World) (base : Nat) : OutU w base (.slice none 0 0) [] := World.ownsRow_nil w base 97 1
theorem OutU.keep {w w' : World} {base : Nat} {v : Value} {L : List Nat} (h : OutU w base v L) (hh : ∀ g, base ≤ g → g < w.heap.size → w'.heap[g]? = w.heap[g]?) : OutU w' base v L := by
  have hlt := own_block_lt h
  obtain ⟨h1, h2⟩ := h
  refine ⟨h1, ?_⟩
  rcases h2 with h2 | ⟨g, cap, cur, hv, hg, hb, r⟩
  · exact .inl h2
  · exact .inr ⟨g, cap, cur, hv, hg, (hh g hg (hlt g (by rw [hv]; rfl)).2).trans hb, r⟩
theorem OutU.lenV {w : World} {base : Nat} {v : Value} {L : List Nat} (h : OutU w base v L) : ∃ A cap, v = .slice A L.length cap ∧ L.length ≤ cap := by
  obtain ⟨_, h1⟩ := h
  rcases h1 with ⟨hv, h0⟩ | ⟨g, cap, cur, hv, hb, hh, hn, r⟩
  · exact ⟨none, 0, by rw [hv, h0], by omega⟩
  · exact ⟨_, cap, hv, hn⟩
theorem OutU.masks {w : World} {base n cap : Nat} {A : Option Addr} {L : List Nat} (h : OutU w base (.slice A n cap) L) (hl : L.length ≤ 1000000) : MasksA w w.heap.size A L := by
  have hlt := own_block_lt h
  refine ⟨by unfold maxLen; omega, fun hn => ?_⟩
  obtain ⟨h1, h2⟩ := id h
  rcases h2 with ⟨_, h0⟩ | ⟨g, cap', cur, hv, hg, hb, r⟩
  · omega
  · injection hv with hA hn1 hn2
    subst hA; subst hn1; subst hn2
    refine ⟨g, 0, rfl, (hlt g rfl).2, fun i hi => ?_⟩
    rw [Nat.zero_add, World.ownsRow.cellAt (show w.ownsRow base 97 1 (.slice (some ⟨g, 0, none⟩) L.length cap) L.length _ from h) i (by omega), List.getElem?_map, List.getElem?_eq_getElem hi, List.getD_eq_getElem?_getD, List.getElem?_eq_getElem hi]
    rfl
/-- a set is stored where it lies -/
theorem OutU.put {w : World} {base n cap g : Nat} {L : List Nat} (h : OutU w base (.slice (some ⟨g, 0, none⟩) n cap) L) (hn : n = L.length) (j m : Nat) : OutU (w.setCell ⟨g, j, none⟩ (.int .u64 (m : Int))) base (.slice (some ⟨g, 0, none⟩) n cap) (L.set j m) := by
  subst hn
  have h9 := (World.ownsRow.stored (show w.ownsRow base 97 1 (.slice (some ⟨g, 0, none⟩) L.length cap) L.length _ from h) j (.int .u64 (m : Int))).1
  unfold OutU
  rw [List.length_set, List.map_set]
  exact h9
theorem info_mask : (Tryd.prog.info? 97).map (fun i => (i.zero, i.size, i.bytes)) = some (some (.int .u64 0), 1, 8) := by kernel_rfl
theorem under_masks : Tryd.prog.underlying 112 = some (.slice 97) := by kernel_rfl
section
variable {ops : Array Oper} {rest : List Oper} {o : Oper} {a : Act} {Q : Exit → Act → World → Prop}
theorem app_mask (w : World) (hg : o.guard = none) (s x : Operand) (ho : o.op = .call { callee := .builtin .append, args := #[s, x], argTypes := #[112, 112] }) (base : Nat) (v : Value) (L : List Nat)
    (hs : a.eval s = v) (hown : OutU w base v L) (wb m : Nat) (hx : a.eval x = .slice (some ⟨wb, 0, none⟩) 1 1) (hy : w.cell? ⟨wb, 0, none⟩ = some (.int .u64 (m : Int))) (hlen : L.length ≤ 1000000) (hbase : base ≤ w.heap.size)
    (hK : ∀ v' w', OutU w' base v' (L ++ [m]) → w.grownBy w' v.ownBlock → wpList Tryd.prog ops Q rest (a.put o.dst v') w') : wpList Tryd.prog ops Q (o :: rest) a w := by
  obtain ⟨i0, hi, hz0, hz1, hz2⟩ := info_parts info_mask
  refine wpList_append_own w hg s x 112 ho base 97 i0 (.int .u64 0) 1 8 under_masks hi hz0 hz1 hz2 rfl (by decide) v L.length _ hs hown ⟨wb, 0, none⟩ 1 1 [.int .u64 (m : Int)] hx rfl ?_ ?_ (by unfold maxLen; omega) (by omega) hbase (fun v' w' h1 h2 _ => hK v' w' ?_ h2)
  · intro j u hj
    cases j with
    | zero => simp at hj; subst hj; simpa [Addr.add] using hy
    | succ j => simp at hj
  · intro u hu; simp at hu; subst hu; rfl
  · unfold OutU
    rw [List.length_append, List.map_append]
    exact h1
end
/-- one more suspect goes into the first group in which it is alike, or makes a group -/
def addS (c : MCase) (out : Int) (L : List Nat) (i : Nat) : List Nat :=
  match L.findIdx? (fun m => alikeB c (m ||| 2 ^ i) out) with
  | some k => L.set k (L.getD k 0 ||| 2 ^ i)
  | none => L ++ [2 ^ i]
def groupsS (c : MCase) (out : Int) : Nat → List Nat
  | 0 => []
  | i + 1 => addS c out (groupsS c out i) i
theorem addS_hit {c : MCase} {out : Int} {L : List Nat} {i k : Nat} (hk : k < L.length) (hp : alikeB c (L.getD k 0 ||| 2 ^ i) out = true) (hb : ∀ j, j < k → alikeB c (L.getD j 0 ||| 2 ^ i) out = false) : addS c out L i = L.set k (L.getD k 0 ||| 2 ^ i) := by
  have e : L.findIdx? (fun m => alikeB c (m ||| 2 ^ i) out) = some k := by
    rw [List.findIdx?_eq_some_iff_getElem]
    refine ⟨hk, ?_, fun j hj => ?_⟩
    · have h9 := hp
      rw [List.getD_eq_getElem?_getD, List.getElem?_eq_getElem hk] at h9
      exact h9
    · have h9 := hb j hj
      rw [List.getD_eq_getElem?_getD, List.getElem?_eq_getElem (show j < L.length by omega)] at h9
      simpa using h9
  unfold addS
  rw [e]
theorem addS_miss {c : MCase} {out : Int} {L : List Nat} {i : Nat} (hb : ∀ j, j < L.length → alikeB c (L.getD j 0 ||| 2 ^ i) out = false) : addS c out L i = L ++ [2 ^ i] := by
  have e : L.findIdx? (fun m => alikeB c (m ||| 2 ^ i) out) = none := by
    rw [List.findIdx?_eq_none_iff]
    intro m hm
    obtain ⟨j, hj, rfl⟩ := List.mem_iff_getElem.1 hm
    have h9 := hb j hj
    rw [List.getD_eq_getElem?_getD, List.getElem?_eq_getElem hj] at h9
    exact h9
  unfold addS
  rw [e]
theorem addS_len {c : MCase} {out : Int} {L : List Nat} {i : Nat} : (addS c out L i).length ≤ L.length + 1 := by
  unfold addS
  split
  · rw [List.length_set]; omega
  · rw [List.length_append]; exact Nat.le_refl _
theorem groupsS_len (c : MCase) (out : Int) : ∀ i, (groupsS c out i).length ≤ i
  | 0 => Nat.le_refl 0
  | i + 1 => Nat.le_trans addS_len (Nat.succ_le_succ (groupsS_len c out i))
end Go.Proofs.YtonpemikodajdaaDoor
