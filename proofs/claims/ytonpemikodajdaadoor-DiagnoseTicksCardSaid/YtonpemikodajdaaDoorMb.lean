/- Memories as values; what it is to fit; walk: fits. Printed by gen_mb.py. -/
import Derived.Test.YtonpemikodajdaaDoorMa
namespace Go.Proofs.YtonpemikodajdaaDoor
open Go.RowKit

/-- a memory, as a value -/
def MemA (w : World) (B : Nat) (v : Value) (t : Int) (s : WSt) : Prop :=
  ∃ Ac cc Ak ck Av cv, v = .agg #[.int .i64 t, .slice Ac s.ns.length cc, .slice Ak s.cs.length ck, .slice Av s.ks.length cv] ∧ IntsA w B Ac s.ns ∧ IntsA w B Ak s.cs ∧ CodesA w B Av s.ks ∧ s.ns.length ≤ cc ∧ s.cs.length ≤ ck ∧ s.ks.length ≤ cv
theorem MemA.below {w w' : World} {B B' : Nat} {v : Value} {t : Int} {s : WSt} (h : MemA w B v t s) (hb : Below B' w w') (hB : B ≤ B') : MemA w' B' v t s := by
  obtain ⟨Ac, cc, Ak, ck, Av, cv, e, h1, h2, h3, h4⟩ := h
  exact ⟨Ac, cc, Ak, ck, Av, cv, e, h1.below hb hB, h2.below hb hB, h3.below hb hB, h4⟩
theorem MemA.keep {w w' : World} {B : Nat} {v : Value} {t : Int} {s : WSt} (h : MemA w B v t s) (hb : Below B w w') : MemA w' B v t s := h.below hb (Nat.le_refl _)
theorem MemA.more {w : World} {B B' : Nat} {v : Value} {t : Int} {s : WSt} (h : MemA w B v t s) (hB : B ≤ B') : MemA w B' v t s := by
  obtain ⟨Ac, cc, Ak, ck, Av, cv, e, h1, h2, h3, h4⟩ := h
  exact ⟨Ac, cc, Ak, ck, Av, cv, e, h1.more hB, h2.more hB, h3.more hB, h4⟩
def prevM (ks : List MCode) (k : Nat) : Int := if k = 0 then -1 else (ks.getD (k - 1) dCode).mon
def codeOk (l : List MMon) (t p : Int) (c : MCode) : Bool := decide (p < c.mon ∧ c.mon < l.length ∧ 0 ≤ c.first ∧ c.first ≤ c.last ∧ c.last < t ∧ 1 ≤ c.count ∧ c.count ≤ 1000) && lawB l c.frame
def codesOk (l : List MMon) (t : Int) (ks : List MCode) : Bool := (List.range ks.length).all fun k => codeOk l t (prevM ks k) (ks.getD k dCode)
def actS (ks : List MCode) (i : Int) : Bool := hasS ks i && (ks.getD (findS ks i) dCode).active
def perOk (l : List MMon) (s : WSt) (i : Nat) : Bool :=
  inB (s.ns.getD i 0) 0 (l.getD i dMon).limit && (inB (s.cs.getD i 0) 0 ((l.getD i dMon).heal - 1) &&
    (if actS s.ks i = true then (!decide (s.ns.getD i 0 < 1) && !decide (0 < s.cs.getD i 0)) else (!(s.ns.getD i 0 == (l.getD i dMon).limit) && (hasS s.ks i || !decide (0 < s.cs.getD i 0)))))
def persOk (l : List MMon) (s : WSt) : Bool := (List.range l.length).all fun i => perOk l s i
def fitB (l : List MMon) (t : Int) (s : WSt) : Bool := inB t 0 1000000 && (decide (s.ns.length = l.length) && (decide (s.cs.length = l.length) && (codesOk l t s.ks && persOk l s)))
theorem range_no {n k : Nat} {p : Nat → Bool} (hk : k < n) (h : p k = false) : (List.range n).all p = false := by
  rw [List.all_eq_false]
  exact ⟨k, List.mem_range.2 hk, by rw [h]; decide⟩
theorem range_yes {n : Nat} {p : Nat → Bool} (h : ∀ k, k < n → p k = true) : (List.range n).all p = true := by
  rw [List.all_eq_true]
  exact fun k hk => h k (List.mem_range.1 hk)
theorem range_at {n : Nat} {p : Nat → Bool} (h : (List.range n).all p = true) {k : Nat} (hk : k < n) : p k = true := List.all_eq_true.1 h k (List.mem_range.2 hk)
theorem codeOk_eq (l : List MMon) (t p : Int) (c : MCode) : codeOk l t p c = (!decide (c.mon ≤ p) && (!decide ((l.length : Int) ≤ c.mon) && (inB c.first 0 c.last && (!decide (t ≤ c.last) && (inB c.count 1 1000 && lawB l c.frame))))) := by
  unfold codeOk
  rcases lawB l c.frame
  · simp
  · unfold inB
    rw [Bool.eq_iff_iff]
    simp only [Bool.and_eq_true, Bool.not_eq_true', decide_eq_false_iff_not, decide_eq_true_eq, and_true]
    omega
theorem codesOk_mon {l : List MMon} {t : Int} {ks : List MCode} {n : Nat} (h : ∀ k, k < n → codeOk l t (prevM ks k) (ks.getD k dCode) = true) : (∀ k, k < n → 0 ≤ (ks.getD k dCode).mon ∧ (ks.getD k dCode).mon < l.length) ∧ ∀ k, k + 1 < n → (ks.getD k dCode).mon < (ks.getD (k + 1) dCode).mon := by
  have key : ∀ k, k < n → prevM ks k < (ks.getD k dCode).mon ∧ (ks.getD k dCode).mon < l.length := fun k hk => by
    have := h k hk
    unfold codeOk at this
    simp only [Bool.and_eq_true, decide_eq_true_eq] at this
    exact ⟨this.1.1, this.1.2.1⟩
  have h2 : ∀ k, k + 1 < n → (ks.getD k dCode).mon < (ks.getD (k + 1) dCode).mon := fun k hk => by
    have := (key (k + 1) hk).1
    unfold prevM at this
    rw [if_neg (by omega)] at this
    simpa using this
  refine ⟨fun k => ?_, h2⟩
  induction k with
  | zero =>
    intro hk
    have := key 0 hk
    unfold prevM at this
    rw [if_pos rfl] at this
    omega
  | succ k ih =>
    intro hk
    have := ih (by omega)
    have := h2 k hk
    have := key (k + 1) hk
    omega
theorem codesOk_asc {l : List MMon} {t : Int} {ks : List MCode} (hl : l.length ≤ 20) (h : ∀ k, k < ks.length → codeOk l t (prevM ks k) (ks.getD k dCode) = true) : AscC ks := by
  obtain ⟨h1, h2⟩ := codesOk_mon h
  refine ⟨fun i j hij hj => ?_, fun i hi => by have := h1 i hi; omega⟩
  induction j with
  | zero => omega
  | succ j ih =>
    have h3 := h2 j hj
    rcases Nat.lt_or_ge i j with hh | hh
    · have := ih hh (by omega)
      omega
    · obtain rfl : i = j := by omega
      exact h3
def cellsM (f : MCode) (Ap : Option Addr) (cp : Nat) : Array Value := #[.int .i64 f.mon, .int .i64 f.first, .int .i64 f.last, .int .i64 f.count, .slice Ap f.frame.length cp, .bool f.active]
set_option maxRecDepth 100000 in
set_option maxHeartbeats 4000000 in
theorem fits_any (A : Option Addr) (cap : Nat) (l : List MMon) (v : Value) (t : Int) (s : WSt) (w : World) (h : MonsA w w.heap.size A l) (hm : MemA w w.heap.size v t s) (hmb : monsB l = true) {b : Bool} (hb : fitB l t s = b) :
    Calls Tryd.prog 72 #[.slice A l.length cap, v] w fun e w' => e = .returned (.bool b) ∧ Below w.heap.size w w' := by
  obtain ⟨Ac, cc, Ak, ck, Av, cv, rfl, hI1, hI2, hC, hcc, hck, hcv⟩ := hm
  have hl20 := monsB_len hmb
  have hn1 := hI1.1
  have hn2 := hI2.1
  have hn3 := hC.1
  unfold maxLen at hn1 hn2
  obtain ⟨w1, hw1⟩ : ∃ w1, w1 = w.alloc (.cells #[.int .i64 t, .slice Ac s.ns.length cc, .slice Ak s.cs.length ck, .slice Av s.ks.length cv] 27) := ⟨_, rfl⟩
  have hb1 : Below w.heap.size w w1 := by rw [hw1]; exact (Below.refl _ _).alloc (Nat.le_refl _) _
  have hh1 : w1.heap[w.heap.size]? = some (.cells #[.int .i64 t, .slice Ac s.ns.length cc, .slice Ak s.cs.length ck, .slice Av s.ks.length cv] 27 (0, 0)) := by rw [hw1]; exact heap_alloc_new w _
  have hs1 : w1.heap.size = w.heap.size + 1 := by rw [hw1]; simp
  have g0 := row_cell hh1 0
  have g1 := row_cell hh1 1
  have g2 := row_cell hh1 2
  have g3 := row_cell hh1 3
  simp only [List.getElem?_toArray, List.getElem?_cons_succ, List.getElem?_cons_zero] at g0 g1 g2 g3
  obtain ⟨y0, hy0⟩ : ∃ y, inB t 0 1000000 = y := ⟨_, rfl⟩
  obtain ⟨y1, hy1⟩ : ∃ y, decide (s.ns.length = l.length) = y := ⟨_, rfl⟩
  obtain ⟨y2, hy2⟩ : ∃ y, decide (s.cs.length = l.length) = y := ⟨_, rfl⟩
  obtain ⟨y3, hy3⟩ : ∃ y, codesOk l t s.ks = y := ⟨_, rfl⟩
  obtain ⟨y4, hy4⟩ : ∃ y, persOk l s = y := ⟨_, rfl⟩
  have HB : Hid ((y0 && (y1 && (y2 && (y3 && y4)))) = b) := by show _ = _; rw [← hb]; unfold fitB; rw [hy0, hy1, hy2, hy3, hy4]
  have Y0 := Lib.hid hy0
  have Y3 := Lib.hid hy3
  have Y4 := Lib.hid hy4
  have hwf := hw1.symm
  clear hb hy0 hy3 hy4 hw1
  rcases y0 with _ | _
  · clear hy1 hy2
    go_enter Tryd.func72, Tryd.ntmps72
    go_wp2_with (go_at_call 66; refine (within_b _ _ _ _ _ Y0.out).mono ?_; rintro e w2 ⟨rfl, rfl⟩)
    go_ret
    exact ⟨ret_b (by rw [← HB.out]; rfl), hb1⟩
  rcases y1 with _ | _
  · have hne : ((s.ns.length : Int) != (l.length : Int)) = true := by rw [bne_iff_ne]; have := of_decide_eq_false hy1; omega
    clear hy1 hy2
    go_enter Tryd.func72, Tryd.ntmps72
    go_wp2_with (go_at_call 66; refine (within_b _ _ _ _ _ Y0.out).mono ?_; rintro e w2 ⟨rfl, rfl⟩)
    go_ret
    exact ⟨ret_b (by rw [← HB.out]; rfl), hb1⟩
  have e1 := of_decide_eq_true hy1
  rcases y2 with _ | _
  · have hne : ((s.ns.length : Int) != (l.length : Int)) = false := by rw [bne_eq_false_iff_eq]; omega
    have hne2 : ((s.cs.length : Int) != (l.length : Int)) = true := by rw [bne_iff_ne]; have := of_decide_eq_false hy2; omega
    clear hy1 hy2 e1
    go_enter Tryd.func72, Tryd.ntmps72
    go_wp2_with (go_at_call 66; refine (within_b _ _ _ _ _ Y0.out).mono ?_; rintro e w2 ⟨rfl, rfl⟩)
    go_ret
    exact ⟨ret_b (by rw [← HB.out]; rfl), hb1⟩
  have e2 := of_decide_eq_true hy2
  have hne : ((s.ns.length : Int) != (l.length : Int)) = false := by rw [bne_eq_false_iff_eq]; omega
  have hne2 : ((s.cs.length : Int) != (l.length : Int)) = false := by rw [bne_eq_false_iff_eq]; omega
  have E1 := Lib.hid e1
  have E2 := Lib.hid e2
  clear hy1 hy2 e1 e2
  go_enter Tryd.func72, Tryd.ntmps72
  go_wp2_with (go_at_call 66; refine (within_b _ _ _ _ _ Y0.out).mono ?_; rintro e w2 ⟨rfl, rfl⟩)
  go_loopw [5, 37] (fun vl vi wr => ∃ k : Nat, k ≤ s.ks.length ∧ vi = .int .i64 k ∧ vl = .int .i64 (prevM s.ks k) ∧ Hid (∀ j, j < k → codeOk l t (prevM s.ks j) (s.ks.getD j dCode) = true) ∧ Below w1.heap.size w1 wr) (fun _ vi _ => s.ks.length - (intOf vi).toNat)
  case atStart => exact ⟨0, Nat.zero_le _, rfl, rfl, (fun j hj => by omega), Below.refl _ _⟩
  case round =>
    obtain ⟨k, hk, rfl, rfl, HI, hbw⟩ := hrel
    have hBW : Below w.heap.size w wr := hb1.trans (hbw.mono (by omega))
    by_cases hlt : k < s.ks.length
    · obtain ⟨f, bb, off, Ap, cp, hg, hAe, _, c0, c1, c2, c3, c4, c5, hcp, hfr⟩ := (hC.keep hBW).at_ hlt
      subst hAe
      obtain ⟨p, hp⟩ : ∃ p, prevM s.ks k = p := ⟨_, rfl⟩
      have HG := Lib.hid hg
      have HP := Lib.hid hp
      rw [hp]
      obtain ⟨w2, hw2⟩ : ∃ w2, w2 = wr.alloc (.cells #[.int .i64 f.mon, .int .i64 f.first, .int .i64 f.last, .int .i64 f.count, .slice Ap f.frame.length cp, .bool f.active] 46) := ⟨_, rfl⟩
      have hB2 : Below w1.heap.size w1 w2 := by rw [hw2]; exact hbw.alloc hbw.size _
      have hh2 : w2.heap[wr.heap.size]? = some (.cells #[.int .i64 f.mon, .int .i64 f.first, .int .i64 f.last, .int .i64 f.count, .slice Ap f.frame.length cp, .bool f.active] 46 (0, 0)) := by rw [hw2]; exact heap_alloc_new wr _
      have hBW2 : Below w.heap.size w w2 := hb1.trans (hB2.mono (by omega))
      have q0 := row_cell hh2 0
      have q1 := row_cell hh2 1
      have q2 := row_cell hh2 2
      have q3 := row_cell hh2 3
      have q4 := row_cell hh2 4
      have q5 := row_cell hh2 5
      simp only [List.getElem?_toArray, List.getElem?_cons_succ, List.getElem?_cons_zero] at q0 q1 q2 q3 q4 q5
      have d0 := (bcell hB2 w.heap.size 0 (by omega)).trans g0
      have hsz2 := hBW2.size
      have hs2 : w2.heap.size = wr.heap.size + 1 := by rw [hw2]; simp
      have hfr2 : IntsA w2 w.heap.size Ap f.frame := hfr.keep (by rw [hw2]; exact (Below.refl _ _).alloc hBW.size _)
      have HL : Hid (∀ b : Bool, lawB l f.frame = b → Calls Tryd.prog 51 #[.slice A l.length cap, .slice Ap f.frame.length cp] w2 fun e w' => e = .returned (.bool b) ∧ Below w2.heap.size w2 w') := fun b hb => lawful_any _ cap l Ap cp f.frame w2 ((h.keep hBW2).more hsz2) (hfr2.more hsz2) hb
      have hwf2 := hw2.symm
      obtain ⟨z1, hz1⟩ : ∃ y, decide (f.mon ≤ p) = y := ⟨_, rfl⟩
      obtain ⟨z2, hz2⟩ : ∃ y, decide ((l.length : Int) ≤ f.mon) = y := ⟨_, rfl⟩
      obtain ⟨z3, hz3⟩ : ∃ y, inB f.first 0 f.last = y := ⟨_, rfl⟩
      obtain ⟨z4, hz4⟩ : ∃ y, decide (t ≤ f.last) = y := ⟨_, rfl⟩
      obtain ⟨z5, hz5⟩ : ∃ y, inB f.count 1 1000 = y := ⟨_, rfl⟩
      obtain ⟨z6, hz6⟩ : ∃ y, lawB l f.frame = y := ⟨_, rfl⟩
      have HCK : Hid (codeOk l t (prevM s.ks k) (s.ks.getD k dCode) = (!z1 && (!z2 && (z3 && (!z4 && (z5 && z6)))))) := by show _ = _; rw [hg, hp, codeOk_eq, hz1, hz2, hz3, hz4, hz5, hz6]
      have Z3 := Lib.hid hz3
      have Z5 := Lib.hid hz5
      have Z6 := Lib.hid (HL.out _ hz6)
      have HBW2 := Lib.hid hBW2
      have HB2 := Lib.hid hB2
      have HLT := Lib.hid hlt
      clear hz3 hz5 hz6 HL hw2 hfr2 hfr hg hp hBW2 hB2 hh2 hBW
      have hfail : codeOk l t (prevM s.ks k) (s.ks.getD k dCode) = false → b = false := fun hf => by rw [← HB.out, ← Y3.out, show codesOk l t s.ks = false from range_no HLT.out hf]; rfl
      have HFA := Lib.hid hfail
      clear hfail
      rcases z1 with _ | _
      rotate_left
      · go_wp2_with fail
        go_ret
        exact ⟨ret_b (HFA.out (by rw [HCK.out]; rfl)).symm, HBW2.out⟩
      rcases z2 with _ | _
      rotate_left
      · go_wp2_with fail
        go_ret
        exact ⟨ret_b (HFA.out (by rw [HCK.out]; rfl)).symm, HBW2.out⟩
      rcases z3 with _ | _
      · go_wp2_with (first | (go_at_call 66; (with_reducible refine (within_b f.first _ _ _ _ Z3.out).mono ?_); rintro e w' ⟨rfl, rfl⟩))
        go_ret
        exact ⟨ret_b (HFA.out (by rw [HCK.out]; rfl)).symm, HBW2.out⟩
      rcases z4 with _ | _
      rotate_left
      · go_wp2_with (first | (go_at_call 66; (with_reducible refine (within_b f.first _ _ _ _ Z3.out).mono ?_); rintro e w' ⟨rfl, rfl⟩))
        go_ret
        exact ⟨ret_b (HFA.out (by rw [HCK.out]; rfl)).symm, HBW2.out⟩
      rcases z5 with _ | _
      · go_wp2_with (first | (go_at_call 66; (with_reducible refine (within_b f.first _ _ _ _ Z3.out).mono ?_); rintro e w' ⟨rfl, rfl⟩) | (go_at_call 66; (with_reducible refine (within_b f.count _ _ _ _ Z5.out).mono ?_); rintro e w' ⟨rfl, rfl⟩))
        go_ret
        exact ⟨ret_b (HFA.out (by rw [HCK.out]; rfl)).symm, HBW2.out⟩
      rcases z6 with _ | _
      · go_wp2_with (first | (go_at_call 66; (with_reducible refine (within_b f.first _ _ _ _ Z3.out).mono ?_); rintro e w' ⟨rfl, rfl⟩) | (go_at_call 66; (with_reducible refine (within_b f.count _ _ _ _ Z5.out).mono ?_); rintro e w' ⟨rfl, rfl⟩) | (go_at_call 51; refine Z6.out.mono ?_; rintro e w3 ⟨rfl, hb3⟩; have q9 := (bcell hb3 wr.heap.size 0 (by omega)).trans q0))
        go_ret
        exact ⟨ret_b (HFA.out (by rw [HCK.out]; rfl)).symm, HBW2.out.trans (hb3.mono hsz2)⟩
      · go_wp2_with (first | (go_at_call 66; (with_reducible refine (within_b f.first _ _ _ _ Z3.out).mono ?_); rintro e w' ⟨rfl, rfl⟩) | (go_at_call 66; (with_reducible refine (within_b f.count _ _ _ _ Z5.out).mono ?_); rintro e w' ⟨rfl, rfl⟩) | (go_at_call 51; refine Z6.out.mono ?_; rintro e w3 ⟨rfl, hb3⟩; have q9 := (bcell hb3 wr.heap.size 0 (by omega)).trans q0))
        go_roundw
        case rel =>
          refine ⟨k + 1, by omega, by go_num, ?_, fun j hj => ?_, HB2.out.trans (hb3.mono (by have := HB2.out.size; omega))⟩
          · have e : prevM s.ks (k + 1) = f.mon := by unfold prevM; rw [if_neg (by omega), Nat.add_sub_cancel, HG.out]
            rw [e]
          · rcases Nat.lt_or_ge j k with hh | hh
            · exact HI.out j hh
            · obtain rfl : j = k := by omega
              rw [HCK.out]; rfl
        case measure => simp [intOf]; omega
    · obtain rfl : k = s.ks.length := by omega
      have hy3 : y3 = true := by rw [← Y3.out]; exact range_yes HI.out
      subst hy3
      have hasc := codesOk_asc hl20 HI.out
      have HAS := Lib.hid hasc
      have hmono := (codesOk_mon HI.out).1
      have HMO := Lib.hid hmono
      clear hasc hmono
      have HI1 := Lib.hid hI1
      have HI2 := Lib.hid hI2
      have HCC := Lib.hid hC
      have HMON := Lib.hid h
      clear hI1 hI2 hC h HI
      go_wp2_with fail
      go_loopw [85] (fun vi wr => ∃ i : Nat, i ≤ l.length ∧ vi = .int .i64 i ∧ Hid (∀ j, j < i → perOk l s j = true) ∧ Below w1.heap.size w1 wr) (fun vi _ => l.length - (intOf vi).toNat)
      case atStart => exact ⟨0, Nat.zero_le _, rfl, (fun j hj => by omega), hbw⟩
      case round =>
        clear hbw hlt hk
        obtain ⟨i, hi, rfl, HI, hbw⟩ := hrel
        have hBW : Below w.heap.size w wr := hb1.trans (hbw.mono (by omega))
        by_cases hlt : i < l.length
        · obtain ⟨m, bb, off, ht, hAe, hblt, t0, t1, t2, t3, t4, t5, t6⟩ := (HMON.out.keep hBW).at_ hlt
          subst hAe
          have hmd : l.getD i dMon = m := by rw [List.getD_eq_getElem?_getD, ht]; rfl
          have hmbd := monB_bounds (mon_ok hmb ht).1
          obtain ⟨w2, hw2⟩ : ∃ w2, w2 = wr.alloc (.cells #[.int .i64 m.sig, .int .i64 m.low, .int .i64 m.high, .int .i64 m.up, .int .i64 m.down, .int .i64 m.limit, .int .i64 m.heal] 44) := ⟨_, rfl⟩
          have hB2 : Below w1.heap.size w1 w2 := by rw [hw2]; exact hbw.alloc hbw.size _
          have hh2 : w2.heap[wr.heap.size]? = some (.cells #[.int .i64 m.sig, .int .i64 m.low, .int .i64 m.high, .int .i64 m.up, .int .i64 m.down, .int .i64 m.limit, .int .i64 m.heal] 44 (0, 0)) := by rw [hw2]; exact heap_alloc_new wr _
          have hs2 : w2.heap.size = wr.heap.size + 1 := by rw [hw2]; simp
          have hBW2 : Below w.heap.size w w2 := hb1.trans (hB2.mono (by omega))
          obtain ⟨n, hn⟩ : ∃ n, s.ns.getD i 0 = n := ⟨_, rfl⟩
          obtain ⟨c, hc⟩ : ∃ c, s.cs.getD i 0 = c := ⟨_, rfl⟩
          obtain ⟨ba, oa, hAc, _, n0⟩ := (HI1.out.keep hBW2).at_ (show i < s.ns.length by rw [E1.out]; exact hlt)
          obtain ⟨bk, ok, hAk, _, k0⟩ := (HI2.out.keep hBW2).at_ (show i < s.cs.length by rw [E2.out]; exact hlt)
          rw [hn] at n0
          rw [hc] at k0
          have d1 := (bcell hB2 w.heap.size 1 (by omega)).trans g1
          have d2 := (bcell hB2 w.heap.size 2 (by omega)).trans g2
          have en1 : (i : Int) < s.ns.length := by have := E1.out; omega
          have en2 : (i : Int) < s.cs.length := by have := E2.out; omega
          have hwf2 := hw2.symm
          have HBW2 := Lib.hid hBW2
          have HB2 := Lib.hid hB2
          have HH2 := Lib.hid hh2
          have HLT := Lib.hid hlt
          have HBQ : Hid (∀ n, Below w1.heap.size w1 (w2.drewN n)) := fun n => ⟨hB2.os, hB2.tape, hB2.output, hB2.size, hB2.block⟩
          have hfail : perOk l s i = false → b = false := fun hf => by rw [← HB.out, ← Y4.out, show persOk l s = false from range_no HLT.out hf]; simp
          have HFA := Lib.hid hfail
          have HMD := Lib.hid hmd
          have HN := Lib.hid hn
          have HCV := Lib.hid hc
          clear hfail hw2 hBW2 hB2 hBW hmd hn hc ht hh2
          subst hAc
          subst hAk
          go_wp2_with fail
          go_quiet (fail)
          have hB3 := HBQ.out nq
          have hBW3 : Below w.heap.size w (w2.drewN nq) := hb1.trans (hB3.mono (by omega))
          have hh3 : (w2.drewN nq).heap[wr.heap.size]? = some (.cells #[.int .i64 m.sig, .int .i64 m.low, .int .i64 m.high, .int .i64 m.up, .int .i64 m.down, .int .i64 m.limit, .int .i64 m.heal] 44 (0, 0)) := HH2.out
          have hs3 : (w2.drewN nq).heap.size = wr.heap.size + 1 := hs2
          clear n0 k0 d1 d2 HBQ HB2 HBW2 HH2 hs2 hwf2
          generalize w2.drewN nq = w3 at *
          have q5 := row_cell hh3 5
          have q6 := row_cell hh3 6
          simp only [List.getElem?_toArray, List.getElem?_cons_succ, List.getElem?_cons_zero] at q5 q6
          have d3 := (bcell hB3 w.heap.size 3 (by omega)).trans g3
          obtain ⟨z0, hz0⟩ : ∃ y, inB n 0 m.limit = y := ⟨_, rfl⟩
          obtain ⟨z1, hz1⟩ : ∃ y, inB c 0 (m.heal - 1) = y := ⟨_, rfl⟩
          have hf := find_S HAS.out (i : Int)
          obtain ⟨ix, hix⟩ : ∃ ix, findS s.ks (i : Int) = ix := ⟨_, rfl⟩
          obtain ⟨has, hhas⟩ : ∃ has, hasS s.ks (i : Int) = has := ⟨_, rfl⟩
          obtain ⟨z2, hz2⟩ : ∃ y, decide (n < 1) = y := ⟨_, rfl⟩
          obtain ⟨z3, hz3⟩ : ∃ y, decide (0 < c) = y := ⟨_, rfl⟩
          obtain ⟨z4, hz4⟩ : ∃ y, (n == m.limit) = y := ⟨_, rfl⟩
          obtain ⟨act, hact⟩ : ∃ y, (s.ks.getD ix dCode).active = y := ⟨_, rfl⟩
          have HPK : Hid (perOk l s i = (z0 && (z1 && (if (has && act) = true then (!z2 && !z3) else (!z4 && (has || !z3)))))) := by
            show _ = _
            unfold perOk actS
            rw [HMD.out, HN.out, HCV.out, hz0, hz1, hhas, hix, hact, hz2, hz3, hz4]
          rw [hix, hhas] at hf
          have HF := Lib.hid hf
          have Z0 := Lib.hid hz0
          have Z1 := Lib.hid hz1
          have HACT := Lib.hid hact
          clear hz0 hz1 hix hhas hf hact
          rcases z0 with _ | _
          · go_wp2_with (go_at_call 66; refine (within_b _ _ _ _ _ Z0.out).mono ?_; rintro e w' ⟨rfl, rfl⟩)
            go_ret
            exact ⟨ret_b (HFA.out (by rw [HPK.out]; rfl)).symm, hBW3⟩
          rcases z1 with _ | _
          · go_wp2_with (first | (go_at_call 66; (with_reducible refine (within_b n _ _ _ _ Z0.out).mono ?_); rintro e w' ⟨rfl, rfl⟩) | (go_at_call 66; (with_reducible refine (within_b c _ _ _ _ Z1.out).mono ?_); rintro e w' ⟨rfl, rfl⟩))
            go_ret
            exact ⟨ret_b (HFA.out (by rw [HPK.out]; rfl)).symm, hBW3⟩
          have hsz3 := hBW3.size
          have hsz31 := hB3.size
          have HC9 := Lib.hid (find_at Av cv s.ks i w3 ((HCC.out.keep hBW3).more hsz3) HAS.out (by omega) HF.out)
          have hfin : ∀ w4, Below w3.heap.size w3 w4 → Below w1.heap.size w1 w4 ∧ Below w.heap.size w w4 := fun w4 hb4 => ⟨hB3.trans (hb4.mono (by omega)), hBW3.trans (hb4.mono hsz3)⟩
          have HFIN := Lib.hid hfin
          clear hfin
          have HCN : Hid (∀ w4, Below w3.heap.size w3 w4 → CodesA w4 w.heap.size Av s.ks) := fun w4 hb4 => HCC.out.keep (HFIN.out w4 hb4).2
          have hit : ∀ j, perOk l s i = true → j < i + 1 → perOk l s j = true := fun j hp hj => by
            rcases Nat.lt_or_ge j i with hh | hh
            · exact HI.out j hh
            · obtain rfl : j = i := by omega
              exact hp
          have HIT := Lib.hid hit
          clear hit
          rcases has with _ | _
          · rcases z4 with _ | _
            · rcases z3 with _ | _
              all_goals go_wp2_with (first | (go_at_call 66; (with_reducible refine (within_b n _ _ _ _ Z0.out).mono ?_); rintro e w' ⟨rfl, rfl⟩) | (go_at_call 66; (with_reducible refine (within_b c _ _ _ _ Z1.out).mono ?_); rintro e w' ⟨rfl, rfl⟩) | (go_at_call 106; refine HC9.out.mono ?_; rintro e w4 ⟨rfl, hb4⟩; have r5 := (bcell hb4 wr.heap.size 5 (by omega)).trans q5; have r3 := (bcell hb4 w.heap.size 3 (by omega)).trans d3))
              · go_roundw
                case rel => exact ⟨i + 1, by omega, by go_num, fun j hj => HIT.out j (by rw [HPK.out]; rfl) hj, (HFIN.out _ hb4).1⟩
                case measure => simp [intOf]; omega
              · go_ret
                exact ⟨ret_b (HFA.out (by rw [HPK.out]; rfl)).symm, (HFIN.out _ hb4).2⟩
            · go_wp2_with (first | (go_at_call 66; (with_reducible refine (within_b n _ _ _ _ Z0.out).mono ?_); rintro e w' ⟨rfl, rfl⟩) | (go_at_call 66; (with_reducible refine (within_b c _ _ _ _ Z1.out).mono ?_); rintro e w' ⟨rfl, rfl⟩) | (go_at_call 106; refine HC9.out.mono ?_; rintro e w4 ⟨rfl, hb4⟩; have r5 := (bcell hb4 wr.heap.size 5 (by omega)).trans q5; have r3 := (bcell hb4 w.heap.size 3 (by omega)).trans d3))
              go_ret
              exact ⟨ret_b (HFA.out (by rw [HPK.out]; rfl)).symm, (HFIN.out _ hb4).2⟩
          · have hixl := (HF.out.2.2.2.1 rfl).1
            have HIXL := Lib.hid hixl
            rcases act with _ | _
            · rcases z4 with _ | _
              all_goals go_wp2_with (first | (go_at_call 66; (with_reducible refine (within_b n _ _ _ _ Z0.out).mono ?_); rintro e w' ⟨rfl, rfl⟩) | (go_at_call 66; (with_reducible refine (within_b c _ _ _ _ Z1.out).mono ?_); rintro e w' ⟨rfl, rfl⟩) | (go_at_call 106; refine HC9.out.mono ?_; rintro e w4 ⟨rfl, hb4⟩; have r5 := (bcell hb4 wr.heap.size 5 (by omega)).trans q5; have r3 := (bcell hb4 w.heap.size 3 (by omega)).trans d3; obtain ⟨f, bc, oc, Ap, cp, hg, hAe, hlt9, _, _, _, _, _, c5, _, _⟩ := (HCN.out w4 hb4).at_ HIXL.out; subst hAe; rw [show f.active = _ from hg ▸ HACT.out] at c5; have HG9 := Lib.hid hg; clear hg))
              · go_roundw
                case rel => exact ⟨i + 1, by omega, by go_num, fun j hj => HIT.out j (by rw [HPK.out]; rfl) hj, (HFIN.out _ hb4).1⟩
                case measure => simp [intOf]; omega
              · go_ret
                exact ⟨ret_b (HFA.out (by rw [HPK.out]; rfl)).symm, (HFIN.out _ hb4).2⟩
            · rcases z2 with _ | _
              · rcases z3 with _ | _
                all_goals go_wp2_with (first | (go_at_call 66; (with_reducible refine (within_b n _ _ _ _ Z0.out).mono ?_); rintro e w' ⟨rfl, rfl⟩) | (go_at_call 66; (with_reducible refine (within_b c _ _ _ _ Z1.out).mono ?_); rintro e w' ⟨rfl, rfl⟩) | (go_at_call 106; refine HC9.out.mono ?_; rintro e w4 ⟨rfl, hb4⟩; have r5 := (bcell hb4 wr.heap.size 5 (by omega)).trans q5; have r3 := (bcell hb4 w.heap.size 3 (by omega)).trans d3; obtain ⟨f, bc, oc, Ap, cp, hg, hAe, hlt9, _, _, _, _, _, c5, _, _⟩ := (HCN.out w4 hb4).at_ HIXL.out; subst hAe; rw [show f.active = _ from hg ▸ HACT.out] at c5; have HG9 := Lib.hid hg; clear hg))
                · go_roundw
                  case rel => exact ⟨i + 1, by omega, by go_num, fun j hj => HIT.out j (by rw [HPK.out]; rfl) hj, (HFIN.out _ hb4).1⟩
                  case measure => simp [intOf]; omega
                · go_ret
                  exact ⟨ret_b (HFA.out (by rw [HPK.out]; rfl)).symm, (HFIN.out _ hb4).2⟩
              · go_wp2_with (first | (go_at_call 66; (with_reducible refine (within_b n _ _ _ _ Z0.out).mono ?_); rintro e w' ⟨rfl, rfl⟩) | (go_at_call 66; (with_reducible refine (within_b c _ _ _ _ Z1.out).mono ?_); rintro e w' ⟨rfl, rfl⟩) | (go_at_call 106; refine HC9.out.mono ?_; rintro e w4 ⟨rfl, hb4⟩; have r5 := (bcell hb4 wr.heap.size 5 (by omega)).trans q5; have r3 := (bcell hb4 w.heap.size 3 (by omega)).trans d3; obtain ⟨f, bc, oc, Ap, cp, hg, hAe, hlt9, _, _, _, _, _, c5, _, _⟩ := (HCN.out w4 hb4).at_ HIXL.out; subst hAe; rw [show f.active = _ from hg ▸ HACT.out] at c5; have HG9 := Lib.hid hg; clear hg))
                go_ret
                exact ⟨ret_b (HFA.out (by rw [HPK.out]; rfl)).symm, (HFIN.out _ hb4).2⟩
        · obtain rfl : i = l.length := by omega
          go_wp2_with fail
          go_ret
          exact ⟨ret_b (by rw [← HB.out, ← Y4.out, show persOk l s = true from range_yes HI.out]; rfl), hb1.trans (hbw.mono (by omega))⟩
end Go.Proofs.YtonpemikodajdaaDoor
