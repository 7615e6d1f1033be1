/- Accesses and requests as plain data; walks: checkAccess, key, Key, the program's and the reference's. Printed by ac1.py. -/
import Derived.Test.YtonpemikodajdaaDoorCs2
namespace Go.Proofs.YtonpemikodajdaaDoor
open Go.RowKit

structure MAcc where
  secret : Int
  tries : Int
  lock : Int
  idle : Int
structure MReq where
  at_ : Int
  serv : Int
  val : Int
def accV (a : MAcc) : Value := .agg #[.int .i64 a.secret, .int .i64 a.tries, .int .i64 a.lock, .int .i64 a.idle]
def accB (a : MAcc) : Bool := inB a.secret 0 65535 && (inB a.tries 1 10 && (inB a.lock 0 1000 && inB a.idle 0 1000))
def checkA (a : MAcc) : Int := if accB a = true then 0 else 103
def keyS (a : MAcc) (s : Int) : Int := (31 * s + a.secret) % 65536
def keyR (a : MAcc) (s : Int) : Int × Int := if accB a = true then (if inB s 0 65535 = true then (keyS a s, 0) else (0, 1)) else (0, 103)
theorem acc_bounds {a : MAcc} (h : accB a = true) : (0 ≤ a.secret ∧ a.secret ≤ 65535) ∧ (1 ≤ a.tries ∧ a.tries ≤ 10) ∧ (0 ≤ a.lock ∧ a.lock ≤ 1000) ∧ (0 ≤ a.idle ∧ a.idle ≤ 1000) := by
  unfold accB at h
  simp only [Bool.and_eq_true, inB_iff'] at h
  exact h
set_option maxHeartbeats 1000000 in
theorem checkacc_any (a : MAcc) (w : World) {r : Int} (hr : checkA a = r) :
    Calls Tryd.prog 80 #[accV a] w fun e w' => e = .returned (.int .i64 r) ∧ Below w.heap.size w w' := by
  unfold accV
  have hb1 : Below w.heap.size w (w.alloc (.cells #[.int .i64 a.secret, .int .i64 a.tries, .int .i64 a.lock, .int .i64 a.idle] 70)) := (Below.refl _ _).alloc (Nat.le_refl _) _
  have n0 := newcell w #[.int .i64 a.secret, .int .i64 a.tries, .int .i64 a.lock, .int .i64 a.idle] 70 0
  have n1 := newcell w #[.int .i64 a.secret, .int .i64 a.tries, .int .i64 a.lock, .int .i64 a.idle] 70 1
  have n2 := newcell w #[.int .i64 a.secret, .int .i64 a.tries, .int .i64 a.lock, .int .i64 a.idle] 70 2
  have n3 := newcell w #[.int .i64 a.secret, .int .i64 a.tries, .int .i64 a.lock, .int .i64 a.idle] 70 3
  simp only [List.getElem?_toArray, List.getElem?_cons_succ, List.getElem?_cons_zero] at n0 n1 n2 n3
  obtain ⟨y0, hy0⟩ : ∃ y, inB a.secret 0 65535 = y := ⟨_, rfl⟩
  obtain ⟨y1, hy1⟩ : ∃ y, inB a.tries 1 10 = y := ⟨_, rfl⟩
  obtain ⟨y2, hy2⟩ : ∃ y, inB a.lock 0 1000 = y := ⟨_, rfl⟩
  obtain ⟨y3, hy3⟩ : ∃ y, inB a.idle 0 1000 = y := ⟨_, rfl⟩
  have hl : accB a = (y0 && (y1 && (y2 && y3))) := by unfold accB; rw [hy0, hy1, hy2, hy3]
  have HR : Hid (r = if (y0 && (y1 && (y2 && y3))) = true then 0 else 103) := by show r = _; rw [← hl, ← hr]; rfl
  have H0 := Lib.hid (within_b a.secret 0 65535 y0 (w.alloc (.cells #[.int .i64 a.secret, .int .i64 a.tries, .int .i64 a.lock, .int .i64 a.idle] 70)) hy0)
  have H1 := Lib.hid (within_b a.tries 1 10 y1 (w.alloc (.cells #[.int .i64 a.secret, .int .i64 a.tries, .int .i64 a.lock, .int .i64 a.idle] 70)) hy1)
  have H2 := Lib.hid (within_b a.lock 0 1000 y2 (w.alloc (.cells #[.int .i64 a.secret, .int .i64 a.tries, .int .i64 a.lock, .int .i64 a.idle] 70)) hy2)
  have H3 := Lib.hid (within_b a.idle 0 1000 y3 (w.alloc (.cells #[.int .i64 a.secret, .int .i64 a.tries, .int .i64 a.lock, .int .i64 a.idle] 70)) hy3)
  clear hr hl hy0 hy1 hy2 hy3
  rcases y0 with _ | _
  · go_enter Tryd.func80, Tryd.ntmps80
    go_wp2_with (first | (go_at_call 66; (with_reducible refine H0.out.mono ?_); rintro e w2 ⟨rfl, rfl⟩))
    go_ret
    exact ⟨ret_i (by rw [HR.out]; rfl), hb1⟩
  rcases y1 with _ | _
  · go_enter Tryd.func80, Tryd.ntmps80
    go_wp2_with (first | (go_at_call 66; (with_reducible refine H0.out.mono ?_); rintro e w2 ⟨rfl, rfl⟩) | (go_at_call 66; (with_reducible refine H1.out.mono ?_); rintro e w2 ⟨rfl, rfl⟩))
    go_ret
    exact ⟨ret_i (by rw [HR.out]; rfl), hb1⟩
  rcases y2 with _ | _
  · go_enter Tryd.func80, Tryd.ntmps80
    go_wp2_with (first | (go_at_call 66; (with_reducible refine H0.out.mono ?_); rintro e w2 ⟨rfl, rfl⟩) | (go_at_call 66; (with_reducible refine H1.out.mono ?_); rintro e w2 ⟨rfl, rfl⟩) | (go_at_call 66; (with_reducible refine H2.out.mono ?_); rintro e w2 ⟨rfl, rfl⟩))
    go_ret
    exact ⟨ret_i (by rw [HR.out]; rfl), hb1⟩
  rcases y3 with _ | _
  · go_enter Tryd.func80, Tryd.ntmps80
    go_wp2_with (first | (go_at_call 66; (with_reducible refine H0.out.mono ?_); rintro e w2 ⟨rfl, rfl⟩) | (go_at_call 66; (with_reducible refine H1.out.mono ?_); rintro e w2 ⟨rfl, rfl⟩) | (go_at_call 66; (with_reducible refine H2.out.mono ?_); rintro e w2 ⟨rfl, rfl⟩) | (go_at_call 66; (with_reducible refine H3.out.mono ?_); rintro e w2 ⟨rfl, rfl⟩))
    go_ret
    exact ⟨ret_i (by rw [HR.out]; rfl), hb1⟩
  go_enter Tryd.func80, Tryd.ntmps80
  go_wp2_with (first | (go_at_call 66; (with_reducible refine H0.out.mono ?_); rintro e w2 ⟨rfl, rfl⟩) | (go_at_call 66; (with_reducible refine H1.out.mono ?_); rintro e w2 ⟨rfl, rfl⟩) | (go_at_call 66; (with_reducible refine H2.out.mono ?_); rintro e w2 ⟨rfl, rfl⟩) | (go_at_call 66; (with_reducible refine H3.out.mono ?_); rintro e w2 ⟨rfl, rfl⟩))
  go_ret
  exact ⟨ret_i (by rw [HR.out]; rfl), hb1⟩
set_option maxHeartbeats 1000000 in
theorem rcheckacc_any (a : MAcc) (w : World) {r : Int} (hr : checkA a = r) :
    Calls Tryd.prog 82 #[accV a] w fun e w' => e = .returned (.int .i64 r) ∧ Below w.heap.size w w' := by
  unfold accV
  have hb1 : Below w.heap.size w (w.alloc (.cells #[.int .i64 a.secret, .int .i64 a.tries, .int .i64 a.lock, .int .i64 a.idle] 70)) := (Below.refl _ _).alloc (Nat.le_refl _) _
  have n0 := newcell w #[.int .i64 a.secret, .int .i64 a.tries, .int .i64 a.lock, .int .i64 a.idle] 70 0
  have n1 := newcell w #[.int .i64 a.secret, .int .i64 a.tries, .int .i64 a.lock, .int .i64 a.idle] 70 1
  have n2 := newcell w #[.int .i64 a.secret, .int .i64 a.tries, .int .i64 a.lock, .int .i64 a.idle] 70 2
  have n3 := newcell w #[.int .i64 a.secret, .int .i64 a.tries, .int .i64 a.lock, .int .i64 a.idle] 70 3
  simp only [List.getElem?_toArray, List.getElem?_cons_succ, List.getElem?_cons_zero] at n0 n1 n2 n3
  obtain ⟨y0, hy0⟩ : ∃ y, inB a.secret 0 65535 = y := ⟨_, rfl⟩
  obtain ⟨y1, hy1⟩ : ∃ y, inB a.tries 1 10 = y := ⟨_, rfl⟩
  obtain ⟨y2, hy2⟩ : ∃ y, inB a.lock 0 1000 = y := ⟨_, rfl⟩
  obtain ⟨y3, hy3⟩ : ∃ y, inB a.idle 0 1000 = y := ⟨_, rfl⟩
  have hl : accB a = (y0 && (y1 && (y2 && y3))) := by unfold accB; rw [hy0, hy1, hy2, hy3]
  have HR : Hid (r = if (y0 && (y1 && (y2 && y3))) = true then 0 else 103) := by show r = _; rw [← hl, ← hr]; rfl
  have H0 := Lib.hid (rwithin_b a.secret 0 65535 y0 (w.alloc (.cells #[.int .i64 a.secret, .int .i64 a.tries, .int .i64 a.lock, .int .i64 a.idle] 70)) hy0)
  have H1 := Lib.hid (rwithin_b a.tries 1 10 y1 (w.alloc (.cells #[.int .i64 a.secret, .int .i64 a.tries, .int .i64 a.lock, .int .i64 a.idle] 70)) hy1)
  have H2 := Lib.hid (rwithin_b a.lock 0 1000 y2 (w.alloc (.cells #[.int .i64 a.secret, .int .i64 a.tries, .int .i64 a.lock, .int .i64 a.idle] 70)) hy2)
  have H3 := Lib.hid (rwithin_b a.idle 0 1000 y3 (w.alloc (.cells #[.int .i64 a.secret, .int .i64 a.tries, .int .i64 a.lock, .int .i64 a.idle] 70)) hy3)
  clear hr hl hy0 hy1 hy2 hy3
  rcases y0 with _ | _
  · go_enter Tryd.func82, Tryd.ntmps82
    go_wp2_with (first | (go_at_call 63; (with_reducible refine H0.out.mono ?_); rintro e w2 ⟨rfl, rfl⟩))
    go_ret
    exact ⟨ret_i (by rw [HR.out]; rfl), hb1⟩
  rcases y1 with _ | _
  · go_enter Tryd.func82, Tryd.ntmps82
    go_wp2_with (first | (go_at_call 63; (with_reducible refine H0.out.mono ?_); rintro e w2 ⟨rfl, rfl⟩) | (go_at_call 63; (with_reducible refine H1.out.mono ?_); rintro e w2 ⟨rfl, rfl⟩))
    go_ret
    exact ⟨ret_i (by rw [HR.out]; rfl), hb1⟩
  rcases y2 with _ | _
  · go_enter Tryd.func82, Tryd.ntmps82
    go_wp2_with (first | (go_at_call 63; (with_reducible refine H0.out.mono ?_); rintro e w2 ⟨rfl, rfl⟩) | (go_at_call 63; (with_reducible refine H1.out.mono ?_); rintro e w2 ⟨rfl, rfl⟩) | (go_at_call 63; (with_reducible refine H2.out.mono ?_); rintro e w2 ⟨rfl, rfl⟩))
    go_ret
    exact ⟨ret_i (by rw [HR.out]; rfl), hb1⟩
  rcases y3 with _ | _
  · go_enter Tryd.func82, Tryd.ntmps82
    go_wp2_with (first | (go_at_call 63; (with_reducible refine H0.out.mono ?_); rintro e w2 ⟨rfl, rfl⟩) | (go_at_call 63; (with_reducible refine H1.out.mono ?_); rintro e w2 ⟨rfl, rfl⟩) | (go_at_call 63; (with_reducible refine H2.out.mono ?_); rintro e w2 ⟨rfl, rfl⟩) | (go_at_call 63; (with_reducible refine H3.out.mono ?_); rintro e w2 ⟨rfl, rfl⟩))
    go_ret
    exact ⟨ret_i (by rw [HR.out]; rfl), hb1⟩
  go_enter Tryd.func82, Tryd.ntmps82
  go_wp2_with (first | (go_at_call 63; (with_reducible refine H0.out.mono ?_); rintro e w2 ⟨rfl, rfl⟩) | (go_at_call 63; (with_reducible refine H1.out.mono ?_); rintro e w2 ⟨rfl, rfl⟩) | (go_at_call 63; (with_reducible refine H2.out.mono ?_); rintro e w2 ⟨rfl, rfl⟩) | (go_at_call 63; (with_reducible refine H3.out.mono ?_); rintro e w2 ⟨rfl, rfl⟩))
  go_ret
  exact ⟨ret_i (by rw [HR.out]; rfl), hb1⟩
theorem key_any (a : MAcc) (s : Int) (w : World) (ha : 0 ≤ a.secret ∧ a.secret ≤ 65535) (hs : 0 ≤ s ∧ s ≤ 65535) :
    Calls Tryd.prog 84 #[accV a, .int .i64 s] w fun e w' => e = .returned (.int .i64 (keyS a s)) ∧ Below w.heap.size w w' := by
  unfold accV
  have hb1 : Below w.heap.size w (w.alloc (.cells #[.int .i64 a.secret, .int .i64 a.tries, .int .i64 a.lock, .int .i64 a.idle] 70)) := (Below.refl _ _).alloc (Nat.le_refl _) _
  have n0 := newcell w #[.int .i64 a.secret, .int .i64 a.tries, .int .i64 a.lock, .int .i64 a.idle] 70 0
  have e1 : IntKind.i64.wrap (31 * s) = 31 * s := IntWalk.i64_in _ (by omega)
  have e2 : IntKind.i64.wrap (31 * s + a.secret) = 31 * s + a.secret := IntWalk.i64_in _ (by omega)
  have hm := Int.emod_nonneg (31 * s + a.secret) (show (65536 : Int) ≠ 0 by decide)
  have hm2 := Int.emod_lt_of_pos (31 * s + a.secret) (show (0 : Int) < 65536 by decide)
  have e4 : (31 * s + a.secret).tmod 65536 = (31 * s + a.secret) % 65536 := Int.tmod_eq_emod_of_nonneg (by omega)
  have e3 : IntKind.i64.wrap ((31 * s + a.secret) % 65536) = (31 * s + a.secret) % 65536 := IntWalk.i64_in _ (by omega)
  clear hm hm2
  go_enter Tryd.func84, Tryd.ntmps84
  go_wp2_with fail
  go_ret
  exact ⟨rfl, hb1⟩
theorem rkey_any (a : MAcc) (s : Int) (w : World) (ha : 0 ≤ a.secret ∧ a.secret ≤ 65535) (hs : 0 ≤ s ∧ s ≤ 65535) :
    Calls Tryd.prog 85 #[accV a, .int .i64 s] w fun e w' => e = .returned (.int .i64 (keyS a s)) ∧ Below w.heap.size w w' := by
  unfold accV
  have hb1 : Below w.heap.size w (w.alloc (.cells #[.int .i64 a.secret, .int .i64 a.tries, .int .i64 a.lock, .int .i64 a.idle] 70)) := (Below.refl _ _).alloc (Nat.le_refl _) _
  have n0 := newcell w #[.int .i64 a.secret, .int .i64 a.tries, .int .i64 a.lock, .int .i64 a.idle] 70 0
  have e1 : IntKind.i64.wrap (31 * s) = 31 * s := IntWalk.i64_in _ (by omega)
  have e2 : IntKind.i64.wrap (31 * s + a.secret) = 31 * s + a.secret := IntWalk.i64_in _ (by omega)
  have hm := Int.emod_nonneg (31 * s + a.secret) (show (65536 : Int) ≠ 0 by decide)
  have hm2 := Int.emod_lt_of_pos (31 * s + a.secret) (show (0 : Int) < 65536 by decide)
  have e4 : (31 * s + a.secret).tmod 65536 = (31 * s + a.secret) % 65536 := Int.tmod_eq_emod_of_nonneg (by omega)
  have e3 : IntKind.i64.wrap ((31 * s + a.secret) % 65536) = (31 * s + a.secret) % 65536 := IntWalk.i64_in _ (by omega)
  clear hm hm2
  go_enter Tryd.func85, Tryd.ntmps85
  go_wp2_with fail
  go_ret
  exact ⟨rfl, hb1⟩
set_option maxHeartbeats 1000000 in
theorem Key_any (a : MAcc) (s : Int) (w : World) {r : Int × Int} (hr : keyR a s = r) :
    Calls Tryd.prog 47 #[accV a, .int .i64 s] w fun e w' => e = .returned (.tuple #[.int .i64 r.1, .int .i64 r.2]) ∧ Below w.heap.size w w' := by
  unfold accV
  have hb1 : Below w.heap.size w (w.alloc (.cells #[.int .i64 a.secret, .int .i64 a.tries, .int .i64 a.lock, .int .i64 a.idle] 70)) := (Below.refl _ _).alloc (Nat.le_refl _) _
  have n0 := newcell w #[.int .i64 a.secret, .int .i64 a.tries, .int .i64 a.lock, .int .i64 a.idle] 70 0
  have n1 := newcell w #[.int .i64 a.secret, .int .i64 a.tries, .int .i64 a.lock, .int .i64 a.idle] 70 1
  have n2 := newcell w #[.int .i64 a.secret, .int .i64 a.tries, .int .i64 a.lock, .int .i64 a.idle] 70 2
  have n3 := newcell w #[.int .i64 a.secret, .int .i64 a.tries, .int .i64 a.lock, .int .i64 a.idle] 70 3
  simp only [List.getElem?_toArray, List.getElem?_cons_succ, List.getElem?_cons_zero] at n0 n1 n2 n3
  have hlt : w.heap.size < (w.alloc (.cells #[.int .i64 a.secret, .int .i64 a.tries, .int .i64 a.lock, .int .i64 a.idle] 70)).heap.size := by simp
  rcases hb : accB a
  · have HC := Lib.hid (checkacc_any a (w.alloc (.cells #[.int .i64 a.secret, .int .i64 a.tries, .int .i64 a.lock, .int .i64 a.idle] 70)) (show checkA a = 103 by unfold checkA; rw [hb]; rfl))
    have HR : Hid (r = (0, 103)) := by show r = _; rw [← hr]; unfold keyR; rw [hb]; rfl
    clear hr hb
    go_enter Tryd.func47, Tryd.ntmps47
    go_wp2_with (go_at_call 80; refine HC.out.mono ?_; rintro e w2 ⟨rfl, hb2⟩)
    go_ret2
    exact ⟨by have e0 := HR.out; subst e0; rfl, hb1.trans (hb2.mono (Nat.le_of_lt hlt))⟩
  · have HC := Lib.hid (checkacc_any a (w.alloc (.cells #[.int .i64 a.secret, .int .i64 a.tries, .int .i64 a.lock, .int .i64 a.idle] 70)) (show checkA a = 0 by unfold checkA; rw [hb]; rfl))
    have hsec := acc_bounds hb
    rcases hs : inB s 0 65535
    · have HR : Hid (r = (0, 1)) := by show r = _; rw [← hr]; unfold keyR; rw [hb, hs]; rfl
      have HS := Lib.hid hs
      clear hr hb hs
      go_enter Tryd.func47, Tryd.ntmps47
      go_wp2_with (first | (go_at_call 80; refine HC.out.mono ?_; rintro e w2 ⟨rfl, hb2⟩) | (go_at_call 66; refine (within_b _ _ _ _ _ HS.out).mono ?_; rintro e w3 ⟨rfl, rfl⟩))
      go_ret2
      exact ⟨by have e0 := HR.out; subst e0; rfl, hb1.trans (hb2.mono (Nat.le_of_lt hlt))⟩
    · have HR : Hid (r = (keyS a s, 0)) := by show r = _; rw [← hr]; unfold keyR; rw [hb, hs]; rfl
      have hsb := inB_iff'.1 hs
      have HS := Lib.hid hs
      clear hr hb hs
      go_enter Tryd.func47, Tryd.ntmps47
      go_wp2_with (first | (go_at_call 80; refine HC.out.mono ?_; rintro e w2 ⟨rfl, hb2⟩; have m0 := (bcell hb2 w.heap.size 0 hlt).trans n0; have m1 := (bcell hb2 w.heap.size 1 hlt).trans n1; have m2 := (bcell hb2 w.heap.size 2 hlt).trans n2; have m3 := (bcell hb2 w.heap.size 3 hlt).trans n3) | (go_at_call 66; refine (within_b _ _ _ _ _ HS.out).mono ?_; rintro e w3 ⟨rfl, rfl⟩) | (go_at_call 84; refine (key_any a s _ hsec.1 hsb).mono ?_; rintro e w4 ⟨rfl, hb4⟩))
      go_ret2
      exact ⟨by have e0 := HR.out; subst e0; rfl, hb1.trans (((hb2.trans (hb4.mono hb2.size))).mono (Nat.le_of_lt hlt))⟩
set_option maxHeartbeats 1000000 in
theorem rKey_any (a : MAcc) (s : Int) (w : World) {r : Int × Int} (hr : keyR a s = r) :
    Calls Tryd.prog 48 #[accV a, .int .i64 s] w fun e w' => e = .returned (.tuple #[.int .i64 r.1, .int .i64 r.2]) ∧ Below w.heap.size w w' := by
  unfold accV
  have hb1 : Below w.heap.size w (w.alloc (.cells #[.int .i64 a.secret, .int .i64 a.tries, .int .i64 a.lock, .int .i64 a.idle] 70)) := (Below.refl _ _).alloc (Nat.le_refl _) _
  have n0 := newcell w #[.int .i64 a.secret, .int .i64 a.tries, .int .i64 a.lock, .int .i64 a.idle] 70 0
  have n1 := newcell w #[.int .i64 a.secret, .int .i64 a.tries, .int .i64 a.lock, .int .i64 a.idle] 70 1
  have n2 := newcell w #[.int .i64 a.secret, .int .i64 a.tries, .int .i64 a.lock, .int .i64 a.idle] 70 2
  have n3 := newcell w #[.int .i64 a.secret, .int .i64 a.tries, .int .i64 a.lock, .int .i64 a.idle] 70 3
  simp only [List.getElem?_toArray, List.getElem?_cons_succ, List.getElem?_cons_zero] at n0 n1 n2 n3
  have hlt : w.heap.size < (w.alloc (.cells #[.int .i64 a.secret, .int .i64 a.tries, .int .i64 a.lock, .int .i64 a.idle] 70)).heap.size := by simp
  rcases hb : accB a
  · have HC := Lib.hid (rcheckacc_any a (w.alloc (.cells #[.int .i64 a.secret, .int .i64 a.tries, .int .i64 a.lock, .int .i64 a.idle] 70)) (show checkA a = 103 by unfold checkA; rw [hb]; rfl))
    have HR : Hid (r = (0, 103)) := by show r = _; rw [← hr]; unfold keyR; rw [hb]; rfl
    clear hr hb
    go_enter Tryd.func48, Tryd.ntmps48
    go_wp2_with (go_at_call 82; refine HC.out.mono ?_; rintro e w2 ⟨rfl, hb2⟩)
    go_ret2
    exact ⟨by have e0 := HR.out; subst e0; rfl, hb1.trans (hb2.mono (Nat.le_of_lt hlt))⟩
  · have HC := Lib.hid (rcheckacc_any a (w.alloc (.cells #[.int .i64 a.secret, .int .i64 a.tries, .int .i64 a.lock, .int .i64 a.idle] 70)) (show checkA a = 0 by unfold checkA; rw [hb]; rfl))
    have hsec := acc_bounds hb
    rcases hs : inB s 0 65535
    · have HR : Hid (r = (0, 1)) := by show r = _; rw [← hr]; unfold keyR; rw [hb, hs]; rfl
      have HS := Lib.hid hs
      clear hr hb hs
      go_enter Tryd.func48, Tryd.ntmps48
      go_wp2_with (first | (go_at_call 82; refine HC.out.mono ?_; rintro e w2 ⟨rfl, hb2⟩) | (go_at_call 63; refine (rwithin_b _ _ _ _ _ HS.out).mono ?_; rintro e w3 ⟨rfl, rfl⟩))
      go_ret2
      exact ⟨by have e0 := HR.out; subst e0; rfl, hb1.trans (hb2.mono (Nat.le_of_lt hlt))⟩
    · have HR : Hid (r = (keyS a s, 0)) := by show r = _; rw [← hr]; unfold keyR; rw [hb, hs]; rfl
      have hsb := inB_iff'.1 hs
      have HS := Lib.hid hs
      clear hr hb hs
      go_enter Tryd.func48, Tryd.ntmps48
      go_wp2_with (first | (go_at_call 82; refine HC.out.mono ?_; rintro e w2 ⟨rfl, hb2⟩; have m0 := (bcell hb2 w.heap.size 0 hlt).trans n0; have m1 := (bcell hb2 w.heap.size 1 hlt).trans n1; have m2 := (bcell hb2 w.heap.size 2 hlt).trans n2; have m3 := (bcell hb2 w.heap.size 3 hlt).trans n3) | (go_at_call 63; refine (rwithin_b _ _ _ _ _ HS.out).mono ?_; rintro e w3 ⟨rfl, rfl⟩) | (go_at_call 85; refine (rkey_any a s _ hsec.1 hsb).mono ?_; rintro e w4 ⟨rfl, hb4⟩))
      go_ret2
      exact ⟨by have e0 := HR.out; subst e0; rfl, hb1.trans (((hb2.trans (hb4.mono hb2.size))).mono (Nat.le_of_lt hlt))⟩
end Go.Proofs.YtonpemikodajdaaDoor
