/- Walks: ignitionref04.checkSlotted; bus.clash, ignitionref04.clash. -/
import Derived.Test.YtlbbhlkbhegegaaSl1
import Derived.Test.YtlbbhlkbhegegaaTail
namespace Go.Proofs.Ytlbbhlkbhegegaa
open Go.RowKit
theorem bdrew' {B : Nat} {a w : World} (h : Below B a w) (n : Nat) : Below B a (w.drewN n) := ⟨h.os, h.tape, h.output, h.size, h.block⟩

set_option maxRecDepth 100000 in
set_option maxHeartbeats 1000000 in
theorem rslotted_any (S C : Int) (A : Option Addr) (cap : Nat) (m : List MGate) (w : World) (h : GatesA w w.heap.size A m) (hm : m.length ≤ maxLen) :
    Calls Try.prog 74 #[.agg #[.int .i64 S, .int .i64 C, .slice A m.length cap]] w fun e w' => e = .returned (.int .i64 (slottedE S C m)) ∧ Below w.heap.size w w' := by
  have hE := SEnv.make (S := S) (C := C) (cap := cap) (t := 54) h
  unfold maxLen at hm
  clear h
  rcases h1 : inB S 1 30
  · have H1 := Lib.hid h1
    have HZ : Hid (slottedE S C m = 43) := slotted_no (by unfold slottedB; rw [h1]; rfl)
    clear h1
    go_enter Try.func74, Try.ntmps74
    go_wp2_with (go_at_call 64; refine (rwithin_b _ _ _ _ _ H1.out).mono ?_; rintro e w' ⟨rfl, rfl⟩)
    go_ret
    exact ⟨ret_i HZ.out.symm, hE.old⟩
  have H1 := Lib.hid h1
  rcases h2 : powB C 64
  · have H2 := Lib.hid h2
    have HZ : Hid (slottedE S C m = 43) := slotted_no (by unfold slottedB; rw [h1, h2]; rfl)
    clear h1 h2
    go_enter Try.func74, Try.ntmps74
    go_wp2_with (first | (go_at_call 64; refine (rwithin_b _ _ _ _ _ H1.out).mono ?_; rintro e w' ⟨rfl, rfl⟩) | (go_at_call 106; refine (rpow_b _ _ _ (by omega) H2.out).mono ?_; rintro e w' ⟨rfl, rfl⟩))
    go_ret
    exact ⟨ret_i HZ.out.symm, hE.old⟩
  have H2 := Lib.hid h2
  have hC := powB_le h2
  by_cases h3 : 60 < m.length
  · have HZ : Hid (slottedE S C m = 43) := slotted_no (by unfold slottedB; rw [h1, h2, decide_eq_false (p := m.length ≤ 60) (by omega)]; rfl)
    clear h1 h2
    go_enter Try.func74, Try.ntmps74
    go_wp2_with (first | (go_at_call 64; refine (rwithin_b _ _ _ _ _ H1.out).mono ?_; rintro e w' ⟨rfl, rfl⟩) | (go_at_call 106; refine (rpow_b _ _ _ (by omega) H2.out).mono ?_; rintro e w' ⟨rfl, rfl⟩))
    go_ret
    exact ⟨ret_i HZ.out.symm, hE.old⟩
  have HZN : Hid (m.all (msgB C) = false → slottedE S C m = 43) := fun h => slotted_no (by unfold slottedB; rw [h]; simp)
  have HZY : Hid (m.all (msgB C) = true → slottedE S C m = 0) := fun h => slotted_yes (by unfold slottedB; rw [h1, h2, h, decide_eq_true (p := m.length ≤ 60) (by omega)]; rfl)
  clear h1 h2
  go_enter Try.func74, Try.ntmps74
  go_wp2_with (first | (go_at_call 64; refine (rwithin_b _ _ _ _ _ H1.out).mono ?_; rintro e w' ⟨rfl, rfl⟩) | (go_at_call 106; refine (rpow_b _ _ _ (by omega) H2.out).mono ?_; rintro e w' ⟨rfl, rfl⟩))
  generalize hW : w.alloc (.cells #[.int .i64 S, .int .i64 C, .slice A m.length cap] 54) = w1 at *
  clear hW
  go_loopw [2, 3] (fun v i wr => v = .int .i64 0 ∧ ∃ k : Nat, k ≤ m.length ∧ i = .int .i64 k ∧ Hid (∀ j x, j < k → m[j]? = some x → msgB C x = true) ∧ Below w1.heap.size w1 wr) (fun _ i _ => m.length - (intOf i).toNat)
  case atStart => exact ⟨rfl, 0, Nat.zero_le _, rfl, fun j x h => by omega, Below.refl _ _⟩
  case round =>
    obtain ⟨rfl, k, hk, rfl, HI, hbw⟩ := hrel
    have hEr := hE.below hbw hE.size
    have q1 := hEr.c1
    have q2 := hEr.c2
    by_cases hlt : k < m.length
    · obtain ⟨g, b, off, hg, rfl, hb, c0, c1⟩ := hEr.msgs.at_ hlt
      have HG := Lib.hid hg
      clear hg hEr
      rcases h4 : inB g.rate 0 1000
      · have H4 := Lib.hid h4
        clear h4
        go_wp2_with fail
        go_quiet ((go_at_call 64; exact quiet_w (rwithin_b _ _ _ _ _ H4.out)))
        go_wp2_with fail
        go_ret
        exact ⟨ret_i (HZN.out (all_no HG.out (by unfold msgB; rw [H4.out]; rfl))).symm, hE.old.trans ((bdrew' hbw _).mono (by have := hE.size; omega))⟩
      · have H4 := Lib.hid h4
        clear h4
        rcases h5 : powB g.delay C
        all_goals
          have H5 := Lib.hid h5
          clear h5
          go_wp2_with fail
          go_quiet (first | (go_at_call 64; exact quiet_w (rwithin_b _ _ _ _ _ H4.out)) | (go_at_call 106; exact quiet_w (rpow_b _ _ _ (by omega) H5.out)))
          go_wp2_with fail
        · go_ret
          exact ⟨ret_i (HZN.out (all_no HG.out (by unfold msgB; rw [H5.out]; simp))).symm, hE.old.trans ((bdrew' hbw _).mono (by have := hE.size; omega))⟩
        · go_roundw
          case rel => exact ⟨rfl, k + 1, by omega, by go_num, upto_snoc HI.out HG.out (by unfold msgB; rw [H4.out, H5.out]; rfl), bdrew' hbw _⟩
          case measure => simp [intOf]; omega
    · have HA : Hid (m.all (msgB C) = true) := all_yes fun j x hj hx => HI.out j x (by omega) hx
      clear hEr
      go_wp2_with fail
      go_ret
      exact ⟨ret_i (HZY.out HA.out).symm, hE.old.trans (hbw.mono (by have := hE.size; omega))⟩

/-- two messages (a, b), put at x and y, clash -/
def minI (a b : Int) : Int := if b < a then b else a
def clashB (a b x y : MGate) : Bool := (x.rate == y.rate) && ((a.rate != b.rate) || (x.delay % minI a.delay b.delay == y.delay % minI a.delay b.delay))
theorem minI_bd {a b : Int} (ha : 1 ≤ a) (hb : 1 ≤ b) : 1 ≤ minI a b := by unfold minI; split <;> omega
theorem mod_diff {x y m : Int} : ((x - y).tmod m == 0) = (x % m == y % m) := by
  rw [Bool.eq_iff_iff, beq_iff_eq, beq_iff_eq]
  constructor
  · intro h
    have h1 := Int.dvd_of_tmod_eq_zero h
    exact Int.emod_eq_emod_iff_emod_sub_eq_zero.2 (Int.emod_eq_zero_of_dvd h1)
  · intro h
    have h1 := Int.emod_eq_emod_iff_emod_sub_eq_zero.1 h
    exact Int.tmod_eq_zero_of_dvd (Int.dvd_of_emod_eq_zero h1)

def pairV (g : MGate) : Value := .agg #[.int .i64 g.rate, .int .i64 g.delay]
set_option maxRecDepth 100000 in
set_option maxHeartbeats 1000000 in
theorem clash_b (a b x y : MGate) (w : World) (ha : 1 ≤ a.delay ∧ a.delay ≤ 64) (hb : 1 ≤ b.delay ∧ b.delay ≤ 64) (hx : 0 ≤ x.delay ∧ x.delay ≤ 64) (hy : 0 ≤ y.delay ∧ y.delay ≤ 64) {r : Bool} (hr : (x.delay % minI a.delay b.delay == y.delay % minI a.delay b.delay) = r) :
    Calls Try.prog 73 #[pairV a, pairV b, pairV x, pairV y] w fun e w' => e = .returned (.bool r) ∧ Below w.heap.size w w' := by
  unfold pairV
  obtain ⟨mn, hmn⟩ : ∃ mn, minI a.delay b.delay = mn := ⟨_, rfl⟩
  have hm1 : 1 ≤ mn := by rw [← hmn]; exact minI_bd ha.1 hb.1
  rw [hmn, ← Int.tmod_eq_emod_of_nonneg hx.1, ← Int.tmod_eq_emod_of_nonneg hy.1] at hr
  unfold minI at hmn
  obtain ⟨rx, hrx⟩ : ∃ rx, x.delay.tmod mn = rx := ⟨_, rfl⟩
  obtain ⟨ry, hry⟩ : ∃ ry, y.delay.tmod mn = ry := ⟨_, rfl⟩
  rw [hrx, hry] at hr
  have hm0 : (mn == 0) = false := by rw [beq_eq_false_iff_ne]; omega
  have HR := Lib.hid hr
  clear hr
  go_enter Try.func73, Try.ntmps73
  go_wp2_with fail
  go_quiet (fail)
  go_wp2_with fail
  go_ret
  exact ⟨ret_b HR.out, bdrew' (((((Below.refl _ _).alloc (Nat.le_refl _) _).alloc (by simp) _).alloc (by simp; omega) _).alloc (by simp; omega) _) _⟩
set_option maxRecDepth 100000 in
set_option maxHeartbeats 1000000 in
theorem rclash_b (a b x y : MGate) (w : World) (ha : 1 ≤ a.delay ∧ a.delay ≤ 64) (hb : 1 ≤ b.delay ∧ b.delay ≤ 64) (hx : 0 ≤ x.delay ∧ x.delay ≤ 64) (hy : 0 ≤ y.delay ∧ y.delay ≤ 64) {r : Bool} (hr : clashB a b x y = r) :
    Calls Try.prog 107 #[pairV a, pairV b, pairV x, pairV y] w fun e w' => e = .returned (.bool r) ∧ Below w.heap.size w w' := by
  unfold pairV
  obtain ⟨mn, hmn⟩ : ∃ mn, minI a.delay b.delay = mn := ⟨_, rfl⟩
  have hm1 : 1 ≤ mn := by rw [← hmn]; exact minI_bd ha.1 hb.1
  unfold clashB at hr
  rw [hmn, ← mod_diff] at hr
  unfold minI at hmn
  obtain ⟨rx, hrx⟩ : ∃ rx, (x.delay - y.delay).tmod mn = rx := ⟨_, rfl⟩
  rw [hrx] at hr
  by_cases h1 : x.rate = y.rate
  · by_cases h2 : a.rate = b.rate
    · have e1 : (x.rate != y.rate) = false := by simpa using h1
      have e2 : (a.rate != b.rate) = false := by simpa using h2
      have e3 : (x.rate == y.rate) = true := by simpa using h1
      rw [e3, e2] at hr
      have HR := Lib.hid hr
      clear h1 h2 e3 hr
      go_enter Try.func107, Try.ntmps107
      go_wp2_with fail
      go_ret
      exact ⟨ret_b (by rw [← HR.out]; rfl), ((((Below.refl _ _).alloc (Nat.le_refl _) _).alloc (by simp) _).alloc (by simp; omega) _).alloc (by simp; omega) _⟩
    · have e1 : (x.rate != y.rate) = false := by simpa using h1
      have e2 : (a.rate != b.rate) = true := by simpa using h2
      have e3 : (x.rate == y.rate) = true := by simpa using h1
      rw [e3, e2] at hr
      have HR := Lib.hid hr
      clear h1 h2 e3 hr
      go_enter Try.func107, Try.ntmps107
      go_wp2_with fail
      go_ret
      exact ⟨ret_b (by rw [← HR.out]; rfl), ((((Below.refl _ _).alloc (Nat.le_refl _) _).alloc (by simp) _).alloc (by simp; omega) _).alloc (by simp; omega) _⟩
  · have e1 : (x.rate != y.rate) = true := by simpa using h1
    have e3 : (x.rate == y.rate) = false := by simpa using h1
    rw [e3] at hr
    have HR := Lib.hid hr
    clear h1 e3 hr
    go_enter Try.func107, Try.ntmps107
    go_wp2_with fail
    go_ret
    exact ⟨ret_b (by rw [← HR.out]; rfl), ((((Below.refl _ _).alloc (Nat.le_refl _) _).alloc (by simp) _).alloc (by simp; omega) _).alloc (by simp; omega) _⟩
end Go.Proofs.Ytlbbhlkbhegegaa
