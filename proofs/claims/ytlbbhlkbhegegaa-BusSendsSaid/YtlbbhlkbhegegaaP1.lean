/- Walks: the powers of two. -/
import Derived.Test.YtlbbhlkbhegegaaOrd
import Derived.Test.YtlbbhlkbhegegaaN1
import Derived.Laws.BitsAllLaws
namespace Go.Proofs.Ytlbbhlkbhegegaa
open Go.RowKit
theorem to64 {n : Int} (h0 : 1 ≤ n) (h1 : n ≤ 64) : n = 1 ∨ n = 2 ∨ n = 3 ∨ n = 4 ∨ n = 5 ∨ n = 6 ∨ n = 7 ∨ n = 8 ∨ n = 9 ∨ n = 10 ∨ n = 11 ∨ n = 12 ∨ n = 13 ∨ n = 14 ∨ n = 15 ∨ n = 16 ∨ n = 17 ∨ n = 18 ∨ n = 19 ∨ n = 20 ∨ n = 21 ∨ n = 22 ∨ n = 23 ∨ n = 24 ∨ n = 25 ∨ n = 26 ∨ n = 27 ∨ n = 28 ∨ n = 29 ∨ n = 30 ∨ n = 31 ∨ n = 32 ∨ n = 33 ∨ n = 34 ∨ n = 35 ∨ n = 36 ∨ n = 37 ∨ n = 38 ∨ n = 39 ∨ n = 40 ∨ n = 41 ∨ n = 42 ∨ n = 43 ∨ n = 44 ∨ n = 45 ∨ n = 46 ∨ n = 47 ∨ n = 48 ∨ n = 49 ∨ n = 50 ∨ n = 51 ∨ n = 52 ∨ n = 53 ∨ n = 54 ∨ n = 55 ∨ n = 56 ∨ n = 57 ∨ n = 58 ∨ n = 59 ∨ n = 60 ∨ n = 61 ∨ n = 62 ∨ n = 63 ∨ n = 64 := by omega
/-- how many bits are set -/
def popN (n : Int) : Int := ((List.range 7).filter fun b => (n.toNat / 2 ^ b) % 2 == 1).length
def pow2 (n : Int) : Bool := n == 1 || n == 2 || n == 4 || n == 8 || n == 16 || n == 32 || n == 64
theorem pop_pow {n : Int} (h0 : 1 ≤ n) (h1 : n ≤ 64) : (popN n == 1) = pow2 n := by
  rcases to64 h0 h1 with rfl | rfl | rfl | rfl | rfl | rfl | rfl | rfl | rfl | rfl | rfl | rfl | rfl | rfl | rfl | rfl | rfl | rfl | rfl | rfl | rfl | rfl | rfl | rfl | rfl | rfl | rfl | rfl | rfl | rfl | rfl | rfl | rfl | rfl | rfl | rfl | rfl | rfl | rfl | rfl | rfl | rfl | rfl | rfl | rfl | rfl | rfl | rfl | rfl | rfl | rfl | rfl | rfl | rfl | rfl | rfl | rfl | rfl | rfl | rfl | rfl | rfl | rfl | rfl
  all_goals decide
theorem and_pow {n : Int} (h0 : 1 ≤ n) (h1 : n ≤ 64) : (bits BinOp.and IntKind.i64 n (n - 1) == 0) = pow2 n := by
  rcases to64 h0 h1 with rfl | rfl | rfl | rfl | rfl | rfl | rfl | rfl | rfl | rfl | rfl | rfl | rfl | rfl | rfl | rfl | rfl | rfl | rfl | rfl | rfl | rfl | rfl | rfl | rfl | rfl | rfl | rfl | rfl | rfl | rfl | rfl | rfl | rfl | rfl | rfl | rfl | rfl | rfl | rfl | rfl | rfl | rfl | rfl | rfl | rfl | rfl | rfl | rfl | rfl | rfl | rfl | rfl | rfl | rfl | rfl | rfl | rfl | rfl | rfl | rfl | rfl | rfl | rfl
  all_goals kernel_rfl
set_option maxRecDepth 100000 in
theorem ones64 (n : Int) (w : World) (h0 : 1 ≤ n) (h1 : n ≤ 64) :
    Calls Try.prog 131 #[.int .u64 n] w fun e w' => e = .returned (.int .i64 (popN n)) ∧ w = w' := by
  have HT := Lib.hid (to64 h0 h1)
  go_enter Try.func131, Try.ntmps131
  go_wp2
  go_ret
  refine ⟨?_, rfl⟩
  rcases HT.out with rfl | rfl | rfl | rfl | rfl | rfl | rfl | rfl | rfl | rfl | rfl | rfl | rfl | rfl | rfl | rfl | rfl | rfl | rfl | rfl | rfl | rfl | rfl | rfl | rfl | rfl | rfl | rfl | rfl | rfl | rfl | rfl | rfl | rfl | rfl | rfl | rfl | rfl | rfl | rfl | rfl | rfl | rfl | rfl | rfl | rfl | rfl | rfl | rfl | rfl | rfl | rfl | rfl | rfl | rfl | rfl | rfl | rfl | rfl | rfl | rfl | rfl | rfl | rfl
  all_goals kernel_rfl
theorem ones_b (n r : Int) (w : World) (h0 : 1 ≤ n) (h1 : n ≤ 64) (hr : popN n = r) :
    Calls Try.prog 121 #[.int .u64 n] w fun e w' => e = .returned (.int .i64 r) ∧ w = w' := by
  subst hr
  have h := ones64 n w h0 h1
  go_enter Try.func121, Try.ntmps121
  go_wp2_with (go_at_call 131; refine h.mono ?_; rintro e w' ⟨rfl, rfl⟩)
  go_ret
  exact ⟨rfl, rfl⟩
/-- when a number is a power of two from 1 to high -/
def powB (n high : Int) : Bool := inB n 1 high && pow2 n
theorem pow_b (n high : Int) (w : World) (h2 : high ≤ 64) {r : Bool} (hr : powB n high = r) :
    Calls Try.prog 105 #[.int .i64 n, .int .i64 high] w fun e w' => e = .returned (.bool r) ∧ w = w' := by
  unfold powB at hr
  rcases hin : inB n 1 high
  · rw [hin] at hr
    have HI := Lib.hid hin
    clear hin
    subst hr
    go_enter Try.func105, Try.ntmps105
    go_wp2_with (go_at_call 67; refine (within_b _ _ _ _ _ HI.out).mono ?_; rintro e w' ⟨rfl, rfl⟩)
    go_ret
    exact ⟨rfl, rfl⟩
  · have hr2 := inB_iff.1 hin
    rw [hin, Bool.true_and, ← pop_pow hr2.1 (by omega)] at hr
    have HI := Lib.hid hin
    obtain ⟨p, hp⟩ : ∃ p, popN n = p := ⟨_, rfl⟩
    have HP := Lib.hid hp
    rw [hp] at hr
    clear hin hp
    have h64 : n ≤ 64 := by omega
    have hn1 := hr2.1
    go_enter Try.func105, Try.ntmps105
    go_wp2_with (first | (go_at_call 67; refine (within_b _ _ _ _ _ HI.out).mono ?_; rintro e w' ⟨rfl, rfl⟩) | (go_at_call 121; refine (ones_b n p _ hn1 h64 HP.out).mono ?_; rintro e w' ⟨rfl, rfl⟩))
    go_ret
    exact ⟨rfl, rfl⟩
theorem rpow_b (n high : Int) (w : World) (h2 : high ≤ 64) {r : Bool} (hr : powB n high = r) :
    Calls Try.prog 106 #[.int .i64 n, .int .i64 high] w fun e w' => e = .returned (.bool r) ∧ w = w' := by
  unfold powB at hr
  rcases hin : inB n 1 high
  · rw [hin] at hr
    have HI := Lib.hid hin
    clear hin
    subst hr
    go_enter Try.func106, Try.ntmps106
    go_wp2_with (go_at_call 64; refine (rwithin_b _ _ _ _ _ HI.out).mono ?_; rintro e w' ⟨rfl, rfl⟩)
    go_ret
    exact ⟨rfl, rfl⟩
  · have hr2 := inB_iff.1 hin
    rw [hin, Bool.true_and, ← and_pow hr2.1 (by omega)] at hr
    have HI := Lib.hid hin
    clear hin
    go_enter Try.func106, Try.ntmps106
    go_wp2_with (go_at_call 64; refine (rwithin_b _ _ _ _ _ HI.out).mono ?_; rintro e w' ⟨rfl, rfl⟩)
    go_ret
    exact ⟨rfl, rfl⟩
end Go.Proofs.Ytlbbhlkbhegegaa
