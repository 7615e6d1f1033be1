/- Walk: the reference's mask. -/
import Derived.Test.YtonpemikodajdaaDoorKi
namespace Go.Proofs.YtonpemikodajdaaDoor
open Go.RowKit

theorem i64_or_nat (a b : Nat) (ha : a < 4096) (hb : b < 4096) : bits BinOp.or IntKind.i64 (a : Int) (b : Int) = ((a ||| b : Nat) : Int) := by
  have hx : a ||| b < 2 ^ 12 := Nat.or_lt_two_pow (by omega) (by omega)
  have ha2 : (BitVec.ofInt 64 (a : Int)).toNat = a := by rw [BitVec.ofInt_natCast, BitVec.toNat_ofNat]; exact Nat.mod_eq_of_lt (by omega)
  have hb2 : (BitVec.ofInt 64 (b : Int)).toNat = b := by rw [BitVec.ofInt_natCast, BitVec.toNat_ofNat]; exact Nat.mod_eq_of_lt (by omega)
  show IntKind.i64.wrap ((BitVec.ofInt 64 (a : Int) ||| BitVec.ofInt 64 (b : Int)).toNat : Int) = _
  rw [BitVec.toNat_or, ha2, hb2]
  exact IntWalk.i64_in _ (by omega)
set_option maxRecDepth 100000 in
theorem mask_any (A : Option Addr) (cap s : Nat) (w : World) (hs : s < 4096) (hI : IntsA w w.heap.size A (bitsI s)) {m : Nat} (hm : (bitsI s).length = m) :
    Calls Tryd.prog 97 #[.slice A m cap] w fun e w' => e = .returned (.int .i64 s) ∧ w = w' := by
  have HLL := Lib.hid (bitsI_length s)
  have hll := bitsI_len s
  rw [hm] at hll
  have HM := Lib.hid hm
  have HB := Lib.hid (fun i (hi : i ∈ bitsOf s) => (mem_bitsOf.1 hi).1)
  have HS := Lib.hid (orL_bits hs)
  have HI := Lib.hid hI
  clear hm hI
  go_enter Tryd.func97, Tryd.ntmps97
  go_wp2_with fail
  go_loop [4, 3] (fun vi vn => ∃ k n : Nat, k ≤ m ∧ vi = .int .i64 k ∧ vn = .int .i64 n ∧ n < 4096 ∧ Hid (n = orL ((bitsOf s).take k))) (fun vi _ => m - (intOf vi).toNat)
  case atStart => exact ⟨0, 0, Nat.zero_le _, rfl, rfl, by omega, rfl⟩
  case round =>
    obtain ⟨k, n, hk, rfl, rfl, hn, HN⟩ := hrel
    by_cases hlt : k < m
    · obtain ⟨i, hi, him, hg⟩ := bitsI_at (s := s) (k := k) (by have := HM.out; omega)
      have hi12 := HB.out i him
      obtain ⟨xb, xo, rfl, _, x0⟩ := HI.out.at_ (k := k) (by have := HM.out; omega)
      rw [hg] at x0
      have HNX : Hid (n ||| 2 ^ i = orL ((bitsOf s).take (k + 1))) := by
        show _ = _
        rw [take_snoc' hi, orL_app, ← HN.out]
        show _ = n ||| (2 ^ i ||| 0)
        rw [Nat.or_zero]
      have hq12 : 2 ^ i < 4096 := by
        have : 2 ^ i < 2 ^ 12 := Nat.pow_lt_pow_right (by omega) (show i < 12 by omega)
        exact this
      have hor : n ||| 2 ^ i < 4096 := Nat.or_lt_two_pow (n := 12) hn hq12
      have hc : ((2 : Int) ^ i) = ((2 ^ i : Nat) : Int) := by simp
      clear hi him hg
      generalize (2 ^ i : Nat) = q at *
      have e0 : IntKind.u64.wrap (i : Int) = (i : Int) := IntWalk.u64_in _ (by omega)
      have e1 : IntKind.i64.wrap ((2 : Int) ^ i) = (q : Int) := by rw [hc]; exact IntWalk.i64_in _ (by omega)
      have e2 : bits BinOp.or IntKind.i64 (n : Int) (q : Int) = ((n ||| q : Nat) : Int) := i64_or_nat _ _ (by omega) (by omega)
      clear hc
      generalize hrr : n ||| q = r at *
      clear hrr
      go_wp2_with fail
      go_round
      case rel => exact ⟨k + 1, r, by omega, by go_num, rfl, hor, HNX.out⟩
      case measure => simp [intOf]; omega
    · obtain rfl : k = m := by omega
      go_wp2_with fail
      go_ret
      exact ⟨ret_i (by rw [HN.out, ← HM.out, HLL.out, List.take_length, HS.out]), rfl⟩
end Go.Proofs.YtonpemikodajdaaDoor
