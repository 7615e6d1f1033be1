/- Walks: the reference's CheckMonitors, rowed, index. Printed by gen_ma.py. -/
import Derived.Test.YtonpemikodajdaaDoorTs
namespace Go.Proofs.YtonpemikodajdaaDoor
open Go.RowKit

theorem rmonB_eq (m : MMon) : monB m = (inB m.sig 0 19 && (inB m.low (-1000000) 1000000 && (inB m.high m.low 1000000 && (inB m.up 1 100 && (inB m.down 1 100 && (inB m.limit 1 1000 && inB m.heal 1 1000)))))) := by
  have h : (!decide (m.low < -1000000) && (!decide (m.high < m.low) && !decide (1000000 < m.high))) = (inB m.low (-1000000) 1000000 && inB m.high m.low 1000000) := by
    unfold inB
    rw [Bool.eq_iff_iff]
    simp only [Bool.and_eq_true, Bool.not_eq_true', decide_eq_false_iff_not, decide_eq_true_eq]
    omega
  unfold monB
  rw [← Bool.and_assoc (inB m.low _ _), ← h]
  simp only [Bool.and_assoc]
set_option maxRecDepth 100000 in
set_option maxHeartbeats 2000000 in
theorem rmcheck_any (A : Option Addr) (cap : Nat) (l : List MMon) (w : World) (h : MonsA w w.heap.size A l) {r : Int} (hr : checkM l = r) :
    Calls Tryd.prog 23 #[.slice A l.length cap] w fun e w' => e = .returned (.int .i64 r) ∧ Below w.heap.size w w' := by
  have hlen := h.1
  unfold maxLen at hlen
  have HR := Lib.hid hr
  clear hr
  by_cases hm : 20 < l.length
  · go_enter Tryd.func23, Tryd.ntmps23
    go_wp2_with fail
    go_ret
    exact ⟨ret_i (by rw [← HR.out]; unfold checkM; rw [monsB_many hm]; rfl), Below.refl _ _⟩
  · go_enter Tryd.func23, Tryd.ntmps23
    go_wp2_with fail
    go_loopw [3] (fun vi wr => ∃ k : Nat, k ≤ l.length ∧ vi = .int .i64 k ∧ Hid (∀ (j : Nat) (m : MMon), j < k → l[j]? = some m → monB m = true) ∧ Below w.heap.size w wr) (fun vi _ => l.length - (intOf vi).toNat)
    case atStart => exact ⟨0, Nat.zero_le _, rfl, fun j t hj => by omega, Below.refl _ _⟩
    case round =>
      obtain ⟨k, hk, rfl, HI, hbw⟩ := hrel
      by_cases hlt : k < l.length
      · obtain ⟨m, b, off, ht, rfl, hblt, t0, t1, t2, t3, t4, t5, t6⟩ := (h.keep hbw).at_ hlt
        have HT := Lib.hid ht
        have hb1 : Below w.heap.size w (wr.alloc (.cells #[.int .i64 m.sig, .int .i64 m.low, .int .i64 m.high, .int .i64 m.up, .int .i64 m.down, .int .i64 m.limit, .int .i64 m.heal] 44)) := hbw.alloc hbw.size _
        obtain ⟨y0, hy0⟩ : ∃ y, inB m.sig 0 19 = y := ⟨_, rfl⟩
        obtain ⟨y1, hy1⟩ : ∃ y, inB m.low (-1000000) 1000000 = y := ⟨_, rfl⟩
        obtain ⟨y2, hy2⟩ : ∃ y, inB m.high m.low 1000000 = y := ⟨_, rfl⟩
        obtain ⟨y3, hy3⟩ : ∃ y, inB m.up 1 100 = y := ⟨_, rfl⟩
        obtain ⟨y4, hy4⟩ : ∃ y, inB m.down 1 100 = y := ⟨_, rfl⟩
        obtain ⟨y5, hy5⟩ : ∃ y, inB m.limit 1 1000 = y := ⟨_, rfl⟩
        obtain ⟨y6, hy6⟩ : ∃ y, inB m.heal 1 1000 = y := ⟨_, rfl⟩
        have HMB : Hid (monB m = (y0 && (y1 && (y2 && (y3 && (y4 && (y5 && y6))))))) := by show _ = _; rw [rmonB_eq, hy0, hy1, hy2, hy3, hy4, hy5, hy6]
        have Y0 := Lib.hid hy0
        have Y1 := Lib.hid hy1
        have Y2 := Lib.hid hy2
        have Y3 := Lib.hid hy3
        have Y4 := Lib.hid hy4
        have Y5 := Lib.hid hy5
        have Y6 := Lib.hid hy6
        clear hy0 hy1 hy2 hy3 hy4 hy5 hy6 ht
        have hfail : monB m = false → checkM l = 100 := fun hf => by unfold checkM; rw [monsB_no HT.out hf]; rfl
        have HFA := Lib.hid hfail
        clear hfail
        rcases y0 with _ | _
        · go_wp2_with (first | (go_at_call 63; (with_reducible refine (rwithin_b m.sig _ _ _ _ Y0.out).mono ?_); rintro e w' ⟨rfl, rfl⟩))
          go_ret
          exact ⟨ret_i (by rw [← HR.out, HFA.out (by rw [HMB.out]; rfl)]), hb1⟩
        rcases y1 with _ | _
        · go_wp2_with (first | (go_at_call 63; (with_reducible refine (rwithin_b m.sig _ _ _ _ Y0.out).mono ?_); rintro e w' ⟨rfl, rfl⟩) | (go_at_call 63; (with_reducible refine (rwithin_b m.low _ _ _ _ Y1.out).mono ?_); rintro e w' ⟨rfl, rfl⟩))
          go_ret
          exact ⟨ret_i (by rw [← HR.out, HFA.out (by rw [HMB.out]; rfl)]), hb1⟩
        rcases y2 with _ | _
        · go_wp2_with (first | (go_at_call 63; (with_reducible refine (rwithin_b m.sig _ _ _ _ Y0.out).mono ?_); rintro e w' ⟨rfl, rfl⟩) | (go_at_call 63; (with_reducible refine (rwithin_b m.low _ _ _ _ Y1.out).mono ?_); rintro e w' ⟨rfl, rfl⟩) | (go_at_call 63; (with_reducible refine (rwithin_b m.high _ _ _ _ Y2.out).mono ?_); rintro e w' ⟨rfl, rfl⟩))
          go_ret
          exact ⟨ret_i (by rw [← HR.out, HFA.out (by rw [HMB.out]; rfl)]), hb1⟩
        rcases y3 with _ | _
        · go_wp2_with (first | (go_at_call 63; (with_reducible refine (rwithin_b m.sig _ _ _ _ Y0.out).mono ?_); rintro e w' ⟨rfl, rfl⟩) | (go_at_call 63; (with_reducible refine (rwithin_b m.low _ _ _ _ Y1.out).mono ?_); rintro e w' ⟨rfl, rfl⟩) | (go_at_call 63; (with_reducible refine (rwithin_b m.high _ _ _ _ Y2.out).mono ?_); rintro e w' ⟨rfl, rfl⟩) | (go_at_call 63; (with_reducible refine (rwithin_b m.up _ _ _ _ Y3.out).mono ?_); rintro e w' ⟨rfl, rfl⟩))
          go_ret
          exact ⟨ret_i (by rw [← HR.out, HFA.out (by rw [HMB.out]; rfl)]), hb1⟩
        rcases y4 with _ | _
        · go_wp2_with (first | (go_at_call 63; (with_reducible refine (rwithin_b m.sig _ _ _ _ Y0.out).mono ?_); rintro e w' ⟨rfl, rfl⟩) | (go_at_call 63; (with_reducible refine (rwithin_b m.low _ _ _ _ Y1.out).mono ?_); rintro e w' ⟨rfl, rfl⟩) | (go_at_call 63; (with_reducible refine (rwithin_b m.high _ _ _ _ Y2.out).mono ?_); rintro e w' ⟨rfl, rfl⟩) | (go_at_call 63; (with_reducible refine (rwithin_b m.up _ _ _ _ Y3.out).mono ?_); rintro e w' ⟨rfl, rfl⟩) | (go_at_call 63; (with_reducible refine (rwithin_b m.down _ _ _ _ Y4.out).mono ?_); rintro e w' ⟨rfl, rfl⟩))
          go_ret
          exact ⟨ret_i (by rw [← HR.out, HFA.out (by rw [HMB.out]; rfl)]), hb1⟩
        rcases y5 with _ | _
        · go_wp2_with (first | (go_at_call 63; (with_reducible refine (rwithin_b m.sig _ _ _ _ Y0.out).mono ?_); rintro e w' ⟨rfl, rfl⟩) | (go_at_call 63; (with_reducible refine (rwithin_b m.low _ _ _ _ Y1.out).mono ?_); rintro e w' ⟨rfl, rfl⟩) | (go_at_call 63; (with_reducible refine (rwithin_b m.high _ _ _ _ Y2.out).mono ?_); rintro e w' ⟨rfl, rfl⟩) | (go_at_call 63; (with_reducible refine (rwithin_b m.up _ _ _ _ Y3.out).mono ?_); rintro e w' ⟨rfl, rfl⟩) | (go_at_call 63; (with_reducible refine (rwithin_b m.down _ _ _ _ Y4.out).mono ?_); rintro e w' ⟨rfl, rfl⟩) | (go_at_call 63; (with_reducible refine (rwithin_b m.limit _ _ _ _ Y5.out).mono ?_); rintro e w' ⟨rfl, rfl⟩))
          go_ret
          exact ⟨ret_i (by rw [← HR.out, HFA.out (by rw [HMB.out]; rfl)]), hb1⟩
        rcases y6 with _ | _
        all_goals
          go_wp2_with (first | (go_at_call 63; (with_reducible refine (rwithin_b m.sig _ _ _ _ Y0.out).mono ?_); rintro e w' ⟨rfl, rfl⟩) | (go_at_call 63; (with_reducible refine (rwithin_b m.low _ _ _ _ Y1.out).mono ?_); rintro e w' ⟨rfl, rfl⟩) | (go_at_call 63; (with_reducible refine (rwithin_b m.high _ _ _ _ Y2.out).mono ?_); rintro e w' ⟨rfl, rfl⟩) | (go_at_call 63; (with_reducible refine (rwithin_b m.up _ _ _ _ Y3.out).mono ?_); rintro e w' ⟨rfl, rfl⟩) | (go_at_call 63; (with_reducible refine (rwithin_b m.down _ _ _ _ Y4.out).mono ?_); rintro e w' ⟨rfl, rfl⟩) | (go_at_call 63; (with_reducible refine (rwithin_b m.limit _ _ _ _ Y5.out).mono ?_); rintro e w' ⟨rfl, rfl⟩) | (go_at_call 63; (with_reducible refine (rwithin_b m.heal _ _ _ _ Y6.out).mono ?_); rintro e w' ⟨rfl, rfl⟩))
        · go_ret
          exact ⟨ret_i (by rw [← HR.out, HFA.out (by rw [HMB.out]; rfl)]), hb1⟩
        · go_roundw
          case rel => exact ⟨k + 1, by omega, by go_num, upto_snoc HI.out HT.out (by rw [HMB.out]; rfl), hb1⟩
          case measure => simp [intOf]; omega
      · obtain rfl : k = l.length := by omega
        go_wp2_with fail
        go_ret
        exact ⟨ret_i (by rw [← HR.out]; unfold checkM; rw [monsB_yes (by omega) HI.out]; rfl), hbw⟩
theorem law_parts {l : List MMon} {row : List Int} {b : Bool} (hb : lawB l row = b) : (inB row.length 1 20 && (row.all bMil && l.all (sigB row.length))) = b := hb
set_option maxRecDepth 100000 in
set_option maxHeartbeats 2000000 in
theorem rlaw_any (A : Option Addr) (cap : Nat) (l : List MMon) (R : Option Addr) (rc : Nat) (row : List Int) (w : World) (h : MonsA w w.heap.size A l) (hr : IntsA w w.heap.size R row) {b : Bool} (hb : lawB l row = b) :
    Calls Tryd.prog 54 #[.slice A l.length cap, .slice R row.length rc] w fun e w' => e = .returned (.bool b) ∧ Below w.heap.size w w' := by
  have hlen := h.1
  have hlr := hr.1
  unfold maxLen at hlen hlr
  obtain ⟨y0, hy0⟩ : ∃ y, inB row.length 1 20 = y := ⟨_, rfl⟩
  have HB := Lib.hid (law_parts hb)
  have Y0 := Lib.hid hy0
  clear hb hy0
  rcases y0 with _ | _
  · go_enter Tryd.func54, Tryd.ntmps54
    go_wp2_with (go_at_call 63; refine (rwithin_b _ _ _ _ _ Y0.out).mono ?_; rintro e w2 ⟨rfl, rfl⟩)
    go_ret
    exact ⟨ret_b (by rw [← HB.out, Y0.out]; rfl), Below.refl _ _⟩
  · go_enter Tryd.func54, Tryd.ntmps54
    go_wp2_with (go_at_call 63; refine (rwithin_b _ _ _ _ _ Y0.out).mono ?_; rintro e w2 ⟨rfl, rfl⟩)
    go_loopw [5] (fun vi wr => ∃ k : Nat, k ≤ row.length ∧ vi = .int .i64 k ∧ Hid (∀ (j : Nat) (x : Int), j < k → row[j]? = some x → bMil x = true) ∧ Below w.heap.size w wr) (fun vi _ => row.length - (intOf vi).toNat)
    case atStart => exact ⟨0, Nat.zero_le _, rfl, (fun j t hj => by omega), Below.refl _ _⟩
    case round =>
      obtain ⟨k, hk, rfl, HI, hbw⟩ := hrel
      by_cases hlt : k < row.length
      · obtain ⟨bb, off, hRe, _, t0⟩ := (hr.keep hbw).at_ hlt
        obtain ⟨x, hx⟩ : ∃ x, row.getD k 0 = x := ⟨_, rfl⟩
        have hg : row[k]? = some x := by rw [← hx, List.getD_eq_getElem?_getD, List.getElem?_eq_getElem hlt]; rfl
        rw [hx] at t0
        subst hRe
        have HG := Lib.hid hg
        clear hg hx
        rcases hq : bMil x
        all_goals
          have HQ := Lib.hid (show inB x (-1000000) 1000000 = _ from hq)
          have HQ2 := Lib.hid hq
          clear hq
          go_wp2_with (first | (go_at_call 63; refine (rwithin_b x _ _ _ _ HQ.out).mono ?_; rintro e w2 ⟨rfl, rfl⟩))
        · go_ret
          exact ⟨ret_b (by rw [← HB.out, Y0.out, all_no HG.out HQ2.out]; rfl), hbw⟩
        · go_roundw
          case rel => exact ⟨k + 1, by omega, by go_num, upto_snoc HI.out HG.out HQ2.out, hbw⟩
          case measure => simp [intOf]; omega
      · obtain rfl : k = row.length := by omega
        have HI2 := Lib.hid (all_yes HI.out)
        clear HI
        go_wp2_with fail
        go_loopw [6] (fun vi wr => ∃ k : Nat, k ≤ l.length ∧ vi = .int .i64 k ∧ Hid (∀ (j : Nat) (m : MMon), j < k → l[j]? = some m → sigB row.length m = true) ∧ Below w.heap.size w wr) (fun vi _ => l.length - (intOf vi).toNat)
        case atStart => exact ⟨0, Nat.zero_le _, rfl, (fun j t hj => by omega), hbw⟩
        case round =>
          obtain ⟨k, hk, rfl, HI, hbw⟩ := hrel
          by_cases hlt : k < l.length
          · obtain ⟨m, bb, off, ht, hAe, hblt, t0, t1, t2, t3, t4, t5, t6⟩ := (h.keep hbw).at_ hlt
            subst hAe
            have HT := Lib.hid ht
            clear ht
            by_cases hq : m.sig < row.length
            · have HQ := Lib.hid (show sigB row.length m = true from decide_eq_true hq)
              go_wp2_with fail
              go_roundw
              case rel => exact ⟨k + 1, by omega, by go_num, upto_snoc HI.out HT.out HQ.out, hbw⟩
              case measure => simp [intOf]; omega
            · have HQ := Lib.hid (show sigB row.length m = false from decide_eq_false hq)
              go_wp2_with fail
              go_ret
              exact ⟨ret_b (by rw [← HB.out, Y0.out, HI2.out, all_no HT.out HQ.out]; rfl), hbw⟩
          · obtain rfl : k = l.length := by omega
            go_wp2_with fail
            go_ret
            exact ⟨ret_b (by rw [← HB.out, Y0.out, HI2.out, all_yes HI.out]; rfl), hbw⟩
def idxAt (ix : Nat) (has : Bool) : Int := if has = true then (ix : Int) else -1
theorem FindP.none {l : List MCode} {t : Int} {i : Nat} (ha : AscC l) (h : FindP l t i false) {k : Nat} (hk : k < l.length) : (l.getD k dCode).mon ≠ t := fun e => by
  obtain ⟨h1, h2, h3, h4⟩ := h
  rcases Nat.lt_trichotomy k i with hh | hh | hh
  · have := h2 k hh; omega
  · subst hh
    have := h4.2 ⟨hk, e⟩
    cases this
  · have h5 := ha.1 i k hh hk
    have h6 := h3 i (Nat.le_refl _) (by omega)
    omega
theorem memCells (w : World) (t : Int) (VC VK V : Value) : (w.alloc (.cells #[.int .i64 t, VC, VK, V] 27)).heap[w.heap.size]? = some (.cells #[.int .i64 t, VC, VK, V] 27 (0, 0)) := heap_alloc_new w _
set_option maxRecDepth 100000 in
set_option maxHeartbeats 2000000 in
theorem index_any (tt : Int) (VC VK : Value) (A : Option Addr) (cap : Nat) (ks : List MCode) (t : Int) (w : World) (h : CodesA w w.heap.size A ks) (ha : AscC ks) {ix : Nat} {has : Bool} (hf : FindP ks t ix has) :
    Calls Tryd.prog 74 #[.agg #[.int .i64 tt, VC, VK, .slice A ks.length cap], .int .i64 t] w fun e w' => e = .returned (.int .i64 (idxAt ix has)) ∧ Below w.heap.size w w' := by
  have hlen := h.1
  have hn3 := newcell w #[.int .i64 tt, VC, VK, .slice A ks.length cap] 27 3
  have hb1 : Below w.heap.size w (w.alloc (.cells #[.int .i64 tt, VC, VK, .slice A ks.length cap] 27)) := (Below.refl _ _).alloc (Nat.le_refl _) _
  simp only [List.getElem?_toArray, List.getElem?_cons_succ, List.getElem?_cons_zero] at hn3
  have HF := Lib.hid hf
  have HA := Lib.hid ha
  clear hf ha
  go_enter Tryd.func74, Tryd.ntmps74
  go_wp2_with fail
  go_loopw [5] (fun vi wr => ∃ k : Nat, k ≤ ks.length ∧ vi = .int .i64 k ∧ Hid (∀ j, j < k → (ks.getD j dCode).mon ≠ t) ∧ wr = w.alloc (.cells #[.int .i64 tt, VC, VK, .slice A ks.length cap] 27)) (fun vi _ => ks.length - (intOf vi).toNat)
  case atStart => exact ⟨0, Nat.zero_le _, rfl, (fun j hj => by omega), rfl⟩
  case round =>
    obtain ⟨k, hk, rfl, HI, rfl⟩ := hrel
    by_cases hlt : k < ks.length
    · obtain ⟨f, b, off, Ap, cp, hg, hAe, _, c0, c1, c2, c3, c4, c5, _, _⟩ := (h.keep hb1).at_ hlt
      subst hAe
      have HG := Lib.hid hg
      clear hg c1 c2 c3 c4 c5
      by_cases he : f.mon = t
      · have hq : (f.mon == t) = true := by rw [beq_iff_eq]; exact he
        have HE := Lib.hid he
        clear he
        go_wp2_with fail
        go_ret
        have hm : (ks.getD k dCode).mon = t := by rw [HG.out]; exact HE.out
        have e : has = true ∧ ix = k := by
          rcases has with _ | _
          · exact absurd hm (FindP.none HA.out HF.out hlt)
          · obtain ⟨h1, h2⟩ := HF.out.2.2.2.1 rfl
            refine ⟨rfl, ?_⟩
            rcases Nat.lt_trichotomy ix k with hh | hh | hh
            · have := HA.out.1 ix k hh hlt; omega
            · exact hh
            · have := HA.out.1 k ix hh h1; omega
        exact ⟨ret_i (by rw [e.1, e.2]; rfl), hb1⟩
      · have hq : (f.mon == t) = false := by rw [beq_eq_false_iff_ne]; exact he
        have HE : Hid (f.mon ≠ t) := he
        clear he
        go_wp2_with fail
        go_roundw
        case rel => exact ⟨k + 1, by omega, by go_num, nat_snoc HI.out (by rw [HG.out]; exact HE.out), trivial⟩
        case measure => simp [intOf]; omega
    · obtain rfl : k = ks.length := by omega
      go_wp2_with fail
      go_ret
      have e : has = false := by
        rcases has with _ | _
        · rfl
        · obtain ⟨h1, h2⟩ := HF.out.2.2.2.1 rfl
          exact absurd h2 (HI.out _ h1)
      exact ⟨ret_i (by rw [e]; rfl), hb1⟩
end Go.Proofs.YtonpemikodajdaaDoor
