/- Walks: the small functions of package bus and of its reference: within, up, the numbers of a flow, where a number stands in a list. -/
import Derived.Test.YtlbbhlkbhegegaaProg
import Derived.Test.YtlbbhlkbhegegaaNet
namespace Go.Proofs.Ytlbbhlkbhegegaa
open Go.RowKit

theorem within_any (n lo hi : Int) (w : World) :
    Calls Try.prog 67 #[.int .i64 n, .int .i64 lo, .int .i64 hi] w fun e w' => e = .returned (.bool (inB n lo hi)) ∧ w = w' := by
  go_enter Try.func67, Try.ntmps67
  go_wp2
  all_goals (go_ret; refine ⟨ret_b ?_, rfl⟩; simp [inB]; try omega)
theorem rwithin_any (n lo hi : Int) (w : World) :
    Calls Try.prog 64 #[.int .i64 n, .int .i64 lo, .int .i64 hi] w fun e w' => e = .returned (.bool (inB n lo hi)) ∧ w = w' := by
  go_enter Try.func64, Try.ntmps64
  go_wp2
  all_goals (go_ret; refine ⟨ret_b ?_, rfl⟩; simp [inB]; try omega)
theorem within_b (n lo hi : Int) (b : Bool) (w : World) (h : inB n lo hi = b) :
    Calls Try.prog 67 #[.int .i64 n, .int .i64 lo, .int .i64 hi] w fun e w' => e = .returned (.bool b) ∧ w = w' := h ▸ within_any n lo hi w
theorem rwithin_b (n lo hi : Int) (b : Bool) (w : World) (h : inB n lo hi = b) :
    Calls Try.prog 64 #[.int .i64 n, .int .i64 lo, .int .i64 hi] w fun e w' => e = .returned (.bool b) ∧ w = w' := h ▸ rwithin_any n lo hi w

theorem up_any (n b : Int) (w : World) (h0 : 0 ≤ n) (h1 : n ≤ 1000000000000000) (h2 : 1 ≤ b) (h3 : b ≤ 1000000000000000) :
    Calls Try.prog 60 #[.int .i64 n, .int .i64 b] w fun e w' => e = .returned (.int .i64 ((n + b - 1) / b)) ∧ w = w' := by
  go_enter Try.func60, Try.ntmps60
  go_wp2
  go_ret
  exact ⟨rfl, rfl⟩
theorem rup_any (n b : Int) (w : World) (h0 : 0 ≤ n) (h1 : n ≤ 1000000000000000) (h2 : 1 ≤ b) (h3 : b ≤ 1000000000000000) :
    Calls Try.prog 62 #[.int .i64 n, .int .i64 b] w fun e w' => e = .returned (.int .i64 ((n + b - 1) / b)) ∧ w = w' := by
  go_enter Try.func62, Try.ntmps62
  go_wp2
  go_ret
  exact ⟨rfl, rfl⟩

set_option maxHeartbeats 400000 in
theorem index_any (A : Option Addr) (n cap : Nat) (l : List Int) (x : Int) (w : World) (B : Nat) (h : IntsA w B A l) (hn : n = l.length) :
    Calls Try.prog 61 #[.slice A n cap, .int .i64 x] w fun e w' => e = .returned (.int .i64 (idxI l x)) ∧ w = w' := by
  subst hn
  have hlen := h.1
  unfold maxLen at hlen
  go_enter Try.func61, Try.ntmps61
  go_wp2
  go_loop [8] (fun i => ∃ k : Nat, k ≤ l.length ∧ i = .int .i64 k ∧ (∀ j, j < k → l.getD j 0 ≠ x)) (fun i => l.length - (intOf i).toNat)
  case atStart => exact ⟨0, Nat.zero_le _, rfl, by omega⟩
  case round =>
    obtain ⟨k, hk, rfl, hi⟩ := hrel
    have HI := Lib.hid hi
    clear hi
    by_cases hlt : k < l.length
    · obtain ⟨b, off, rfl, hb, hc⟩ := h.at_ hlt
      generalize hy : l.getD k 0 = y at hc
      have HY := Lib.hid hy
      clear hy
      by_cases he : x = y
      · subst he
        go_wp2
        go_ret
        exact ⟨ret_i (idxI_hit hlt HI.out HY.out).symm, rfl⟩
      · go_wp2
        go_round
        case rel => exact ⟨k + 1, by omega, by go_num, fun j hj => by
          rcases Nat.lt_or_ge j k with h1 | h1
          · exact HI.out j h1
          · have : j = k := by omega
            subst this; rw [HY.out]; exact fun e => he e.symm⟩
        case measure => simp [intOf]; omega
    · go_wp2
      go_ret
      exact ⟨ret_i (idxI_miss fun j hj => HI.out j (by omega)).symm, rfl⟩

theorem contains_any (A : Option Addr) (n cap : Nat) (l : List Int) (x : Int) (w : World) (B : Nat) (h : IntsA w B A l) (hn : n = l.length) :
    Calls Try.prog 56 #[.slice A n cap, .int .i64 x] w fun e w' => e = .returned (.bool (hasI l x)) ∧ w = w' := by
  have H := Lib.hid hn
  clear hn
  go_enter Try.func56, Try.ntmps56
  go_wp2_with (go_at_call 61; refine (index_any _ _ _ l x _ B h H.out).mono ?_; rintro e w' ⟨rfl, rfl⟩)
  go_ret
  exact ⟨ret_b (idxI_has l x), rfl⟩

set_option maxHeartbeats 400000 in
theorem has_any (A : Option Addr) (n cap : Nat) (l : List Int) (x : Int) (w : World) (B : Nat) (h : IntsA w B A l) (hn : n = l.length) :
    Calls Try.prog 59 #[.slice A n cap, .int .i64 x] w fun e w' => e = .returned (.bool (hasI l x)) ∧ w = w' := by
  subst hn
  have hlen := h.1
  unfold maxLen at hlen
  go_enter Try.func59, Try.ntmps59
  go_wp2
  go_loop [5] (fun i => ∃ k : Nat, k ≤ l.length ∧ i = .int .i64 k ∧ (∀ j, j < k → l.getD j 0 ≠ x)) (fun i => l.length - (intOf i).toNat)
  case atStart => exact ⟨0, Nat.zero_le _, rfl, by omega⟩
  case round =>
    obtain ⟨k, hk, rfl, hi⟩ := hrel
    have HI := Lib.hid hi
    clear hi
    by_cases hlt : k < l.length
    · obtain ⟨b, off, rfl, hb, hc⟩ := h.at_ hlt
      generalize hy : l.getD k 0 = y at hc
      have HY := Lib.hid hy
      clear hy
      by_cases he : y = x
      · subst he
        go_wp2
        go_ret
        exact ⟨ret_b (hasI_hit hlt HY.out).symm, rfl⟩
      · go_wp2
        go_round
        case rel => exact ⟨k + 1, by omega, by go_num, fun j hj => by
          rcases Nat.lt_or_ge j k with h1 | h1
          · exact HI.out j h1
          · have : j = k := by omega
            subst this; rw [HY.out]; exact he⟩
        case measure => simp [intOf]; omega
    · go_wp2
      go_ret
      exact ⟨ret_b (hasI_miss fun j hj => HI.out j (by omega)).symm, rfl⟩

theorem poured_any (x y : Int) (p : Value) (w : World) :
    Calls Try.prog 84 #[.agg #[.int .i64 x, .int .i64 y, p]] w fun e w' => e = .returned (.bool (flowB x y)) ∧ Below w.heap.size w w' := by
  go_enter Try.func84, Try.ntmps84
  go_wp2_with (go_at_call 67; refine (within_any _ _ _ _).mono ?_; rintro e w' ⟨rfl, rfl⟩)
  all_goals (go_ret; exact ⟨ret_b (by simp [flowB, *]), (Below.refl _ _).alloc (Nat.le_refl _) _⟩)
theorem rflow_any (x y : Int) (p : Value) (w : World) :
    Calls Try.prog 86 #[.agg #[.int .i64 x, .int .i64 y, p]] w fun e w' => e = .returned (.bool (flowB x y)) ∧ Below w.heap.size w w' := by
  go_enter Try.func86, Try.ntmps86
  go_wp2_with (go_at_call 64; refine (rwithin_any _ _ _ _).mono ?_; rintro e w' ⟨rfl, rfl⟩)
  all_goals (go_ret; exact ⟨ret_b (by simp [flowB, *]), (Below.refl _ _).alloc (Nat.le_refl _) _⟩)
theorem poured_b (x y : Int) (p : Value) (b : Bool) (w : World) (h : flowB x y = b) :
    Calls Try.prog 84 #[.agg #[.int .i64 x, .int .i64 y, p]] w fun e w' => e = .returned (.bool b) ∧ Below w.heap.size w w' := h ▸ poured_any x y p w
theorem rflow_b (x y : Int) (p : Value) (b : Bool) (w : World) (h : flowB x y = b) :
    Calls Try.prog 86 #[.agg #[.int .i64 x, .int .i64 y, p]] w fun e w' => e = .returned (.bool b) ∧ Below w.heap.size w w' := h ▸ rflow_any x y p w
theorem contains_b (A : Option Addr) (n cap : Nat) (l : List Int) (x : Int) (b : Bool) (w : World) (B : Nat) (h : IntsA w B A l) (hn : n = l.length) (hb : hasI l x = b) :
    Calls Try.prog 56 #[.slice A n cap, .int .i64 x] w fun e w' => e = .returned (.bool b) ∧ w = w' := hb ▸ contains_any A n cap l x w B h hn
theorem has_b (A : Option Addr) (n cap : Nat) (l : List Int) (x : Int) (b : Bool) (w : World) (B : Nat) (h : IntsA w B A l) (hn : n = l.length) (hb : hasI l x = b) :
    Calls Try.prog 59 #[.slice A n cap, .int .i64 x] w fun e w' => e = .returned (.bool b) ∧ w = w' := hb ▸ has_any A n cap l x w B h hn
end Go.Proofs.Ytlbbhlkbhegegaa
