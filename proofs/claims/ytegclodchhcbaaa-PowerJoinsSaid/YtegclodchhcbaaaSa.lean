/- Walks: the order of the users, sorted: cmp.Compare, the comparison, the insertion sort, the stable sort of at most 20. -/
import Derived.Test.YtegclodchhcbaaaFw
import Derived.Test.YtegclodchhcbaaaLv
import Derived.Test.YtegclodchhcbaaaSq
namespace Go.Proofs.Ytegclodchhcbaaa
open Go.RowKit

def cmpV (x y : Int) : Int := if x < y then -1 else if y < x then 1 else 0
theorem cmpV_neg (x y : Int) : cmpV x y < 0 ↔ x < y := by
  unfold cmpV
  split
  · omega
  · split <;> omega
set_option maxRecDepth 100000 in
theorem isNaN_any (x : Int) (w : World) : Calls Try.prog 103 #[.int .i64 x] w fun e w' => e = .returned (.bool false) ∧ w = w' := by
  go_enter Try.func103, Try.ntmps103
  go_wp2_with fail
  go_ret
  exact ⟨ret_b (by simp), rfl⟩
set_option maxRecDepth 100000 in
theorem compare_any (x y : Int) (w : World) {v : Int} (hv : cmpV x y = v) : Calls Try.prog 89 #[.int .i64 x, .int .i64 y] w fun e w' => e = .returned (.int .i64 v) ∧ w = w' := by
  subst hv
  unfold cmpV
  have H1 := Lib.hid (isNaN_any x w)
  have H2 := Lib.hid (isNaN_any y w)
  by_cases h1 : x < y
  · rw [if_pos h1]
    go_enter Try.func89, Try.ntmps89
    go_wp2_with (go_at_call 103; (with_reducible first | refine H1.out.mono ?_ | refine H2.out.mono ?_); rintro e w2 ⟨rfl, rfl⟩)
    go_ret
    exact ⟨rfl, rfl⟩
  rw [if_neg h1]
  by_cases h2 : y < x
  · rw [if_pos h2]
    go_enter Try.func89, Try.ntmps89
    go_wp2_with (go_at_call 103; (with_reducible first | refine H1.out.mono ?_ | refine H2.out.mono ?_); rintro e w2 ⟨rfl, rfl⟩)
    go_ret
    exact ⟨rfl, rfl⟩
  · rw [if_neg h2]
    go_enter Try.func89, Try.ntmps89
    go_wp2_with (go_at_call 103; (with_reducible first | refine H1.out.mono ?_ | refine H2.out.mono ?_); rintro e w2 ⟨rfl, rfl⟩)
    go_ret
    exact ⟨rfl, rfl⟩
set_option maxRecDepth 100000 in
theorem order_any (g : MGrid) (gb : Nat) (A3 : Option Addr) (c3 : Nat) (a b : Nat) (w : World) (hx : w.cell? ⟨gb, 3, none⟩ = some (.slice A3 g.users.length c3)) (hu : UsersA w w.heap.size A3 g.users) (ha : a < g.users.length) (hb : b < g.users.length) {v : Int} (hv : cmpV (g.users.getD b dUser).level (g.users.getD a dUser).level = v) :
    Calls Try.prog 88 #[.int .i64 a, .int .i64 b, .pointer (some ⟨gb, 0, none⟩)] w fun e w' => e = .returned (.int .i64 v) ∧ ∃ m, w' = w.drewN m := by
  obtain ⟨ua, b1, o1, he1, hA1, hb1, x0, x1, x2⟩ := hu.at_ ha
  obtain ⟨ub, b2, o2, he2, hA2, hb2, y0, y1, y2⟩ := hu.at_ hb
  have hul := hu.1
  unfold maxLen at hul
  subst hA1
  cases hA2
  rw [he1, he2] at hv
  have HC := Lib.hid (fun W => compare_any ub.level ua.level W hv)
  clear hv he1 he2 hu
  go_enter Try.func88, Try.ntmps88
  go_upto_region 1 with fail
  go_quiet ((go_at_call 89; exact quiet_w (HC.out _)))
  go_wp2_with fail
  go_ret
  exact ⟨rfl, _, rfl⟩
end Go.Proofs.Ytegclodchhcbaaa
