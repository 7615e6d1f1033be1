/- Walks: within; ContainsFunc over ints at the closures of this package. -/
import Derived.Test.YtonpemikodajdaaDoorCs1
import Derived.Test.YtonpemikodajdaaDoorLaws
namespace Go.Proofs.YtonpemikodajdaaDoor
open Go.RowKit

/-- where a test holds first, told by its sign -/
def IdxB (i : Int) (b : Bool) : Prop := 0 ≤ i ↔ b = false
theorem within_any (n lo hi : Int) (w : World) :
    Calls Tryd.prog 66 #[.int .i64 n, .int .i64 lo, .int .i64 hi] w fun e w' => e = .returned (.bool (inB n lo hi)) ∧ w = w' := by
  go_enter Tryd.func66, Tryd.ntmps66
  go_wp2
  all_goals (go_ret; refine ⟨ret_b ?_, rfl⟩; simp [inB]; try omega)
theorem rwithin_any (n lo hi : Int) (w : World) :
    Calls Tryd.prog 63 #[.int .i64 n, .int .i64 lo, .int .i64 hi] w fun e w' => e = .returned (.bool (inB n lo hi)) ∧ w = w' := by
  go_enter Tryd.func63, Tryd.ntmps63
  go_wp2
  all_goals (go_ret; refine ⟨ret_b ?_, rfl⟩; simp [inB]; try omega)
theorem within_b (n lo hi : Int) (b : Bool) (w : World) (h : inB n lo hi = b) :
    Calls Tryd.prog 66 #[.int .i64 n, .int .i64 lo, .int .i64 hi] w fun e w' => e = .returned (.bool b) ∧ w = w' := h ▸ within_any n lo hi w
theorem rwithin_b (n lo hi : Int) (b : Bool) (w : World) (h : inB n lo hi = b) :
    Calls Tryd.prog 63 #[.int .i64 n, .int .i64 lo, .int .i64 hi] w fun e w' => e = .returned (.bool b) ∧ w = w' := h ▸ rwithin_any n lo hi w

theorem clo68 (x : Int) (w : World) {r : Bool} (hr : b1000 x = r) : Calls Tryd.prog 68 #[.int .i64 x] w fun e w' => e = .returned (.bool !r) ∧ w = w' := by
  have hr' : inB x 0 1000 = r := hr
  rcases r with _ | _
  all_goals
    have HR := Lib.hid hr'
    clear hr hr'
    go_enter Tryd.func68, Tryd.ntmps68
    go_wp2_with (go_at_call 66; refine (within_b x _ _ _ _ HR.out).mono ?_; rintro e w' ⟨rfl, rfl⟩)
    go_ret
    exact ⟨rfl, rfl⟩
set_option maxHeartbeats 1000000 in
theorem idx68 (O : Option Addr) (cap : Nat) (os : List Int) (w : World) (B : Nat) (h : IntsA w B O os) :
    Calls Tryd.prog 104 #[.slice O os.length cap, .func (.func 68) #[] #[]] w fun e w' => (∃ i : Int, e = .returned (.int .i64 i) ∧ IdxB i (os.all b1000)) ∧ w = w' := by
  have hlen := h.1
  unfold maxLen at hlen
  go_enter Tryd.func104, Tryd.ntmps104
  go_wp2_with fail
  go_loop [8] (fun i => ∃ k : Nat, k ≤ os.length ∧ i = .int .i64 k ∧ Hid (∀ j, j < k → b1000 (os.getD j 0) = true)) (fun i => os.length - (intOf i).toNat)
  case atStart => exact ⟨0, Nat.zero_le _, rfl, fun j hj => by omega⟩
  case round =>
    obtain ⟨k, hk, rfl, HI⟩ := hrel
    by_cases hlt : k < os.length
    · obtain ⟨b, off, rfl, hb, hc⟩ := h.at_ hlt
      have hg : os.getD k 0 = os[k] := by rw [List.getD_eq_getElem?_getD, List.getElem?_eq_getElem hlt]; rfl
      have HG := Lib.hid hg
      clear hg
      rcases hx : b1000 (os.getD k 0)
      all_goals
        have HX := Lib.hid hx
        generalize hov : os.getD k 0 = ov at *
        have HC := Lib.hid (clo68 ov w hx)
        have HOV := Lib.hid hov
        clear hx hov
        go_wp2_with (go_at_call 68; refine HC.out.mono ?_; rintro e w2 ⟨rfl, rfl⟩)
      · go_ret
        refine ⟨⟨k, rfl, ⟨fun _ => ?_, fun _ => by omega⟩⟩, rfl⟩
        rw [List.all_eq_false]
        exact ⟨os[k], List.getElem_mem _, by rw [← HG.out]; simp [HX.out]⟩
      · go_round
        case rel => exact ⟨k + 1, by omega, by go_num, nat_snoc HI.out (by rw [HOV.out]; exact HX.out)⟩
        case measure => simp [intOf]; omega
    · obtain rfl : k = os.length := by omega
      go_wp2_with fail
      go_ret
      refine ⟨⟨-1, rfl, ⟨fun h => by omega, fun h => ?_⟩⟩, rfl⟩
      rw [List.all_eq_false] at h
      obtain ⟨x, hx, hn⟩ := h
      obtain ⟨j, hj, rfl⟩ := List.mem_iff_getElem.1 hx
      have := HI.out j hj
      rw [List.getD_eq_getElem?_getD, List.getElem?_eq_getElem hj] at this
      exact absurd this hn
theorem con68 (O : Option Addr) (cap : Nat) (os : List Int) (w : World) (B : Nat) (h : IntsA w B O os) {b : Bool} (he : os.all b1000 = b) :
    Calls Tryd.prog 67 #[.slice O os.length cap, .func (.func 68) #[] #[]] w fun e w' => e = .returned (.bool !b) ∧ w = w' := by
  have HC := Lib.hid (idx68 O cap os w B h)
  have HE := Lib.hid he
  clear he
  go_enter Tryd.func67, Tryd.ntmps67
  go_wp2_with (go_at_call 104; refine HC.out.mono ?_; rintro e w2 ⟨⟨i, rfl, hi⟩, rfl⟩; have HI := Lib.hid hi; clear hi)
  go_ret
  refine ⟨ret_b ?_, rfl⟩
  rcases b with _ | _
  · exact decide_eq_true (HI.out.2 HE.out)
  · exact decide_eq_false fun h => by have := HI.out.1 h; rw [HE.out] at this; cases this

theorem clo69 (x : Int) (w : World) {r : Bool} (hr : b3 x = r) : Calls Tryd.prog 69 #[.int .i64 x] w fun e w' => e = .returned (.bool !r) ∧ w = w' := by
  have hr' : inB x 0 3 = r := hr
  rcases r with _ | _
  all_goals
    have HR := Lib.hid hr'
    clear hr hr'
    go_enter Tryd.func69, Tryd.ntmps69
    go_wp2_with (go_at_call 66; refine (within_b x _ _ _ _ HR.out).mono ?_; rintro e w' ⟨rfl, rfl⟩)
    go_ret
    exact ⟨rfl, rfl⟩
set_option maxHeartbeats 1000000 in
theorem idx69 (O : Option Addr) (cap : Nat) (os : List Int) (w : World) (B : Nat) (h : IntsA w B O os) :
    Calls Tryd.prog 104 #[.slice O os.length cap, .func (.func 69) #[] #[]] w fun e w' => (∃ i : Int, e = .returned (.int .i64 i) ∧ IdxB i (os.all b3)) ∧ w = w' := by
  have hlen := h.1
  unfold maxLen at hlen
  go_enter Tryd.func104, Tryd.ntmps104
  go_wp2_with fail
  go_loop [8] (fun i => ∃ k : Nat, k ≤ os.length ∧ i = .int .i64 k ∧ Hid (∀ j, j < k → b3 (os.getD j 0) = true)) (fun i => os.length - (intOf i).toNat)
  case atStart => exact ⟨0, Nat.zero_le _, rfl, fun j hj => by omega⟩
  case round =>
    obtain ⟨k, hk, rfl, HI⟩ := hrel
    by_cases hlt : k < os.length
    · obtain ⟨b, off, rfl, hb, hc⟩ := h.at_ hlt
      have hg : os.getD k 0 = os[k] := by rw [List.getD_eq_getElem?_getD, List.getElem?_eq_getElem hlt]; rfl
      have HG := Lib.hid hg
      clear hg
      rcases hx : b3 (os.getD k 0)
      all_goals
        have HX := Lib.hid hx
        generalize hov : os.getD k 0 = ov at *
        have HC := Lib.hid (clo69 ov w hx)
        have HOV := Lib.hid hov
        clear hx hov
        go_wp2_with (go_at_call 69; refine HC.out.mono ?_; rintro e w2 ⟨rfl, rfl⟩)
      · go_ret
        refine ⟨⟨k, rfl, ⟨fun _ => ?_, fun _ => by omega⟩⟩, rfl⟩
        rw [List.all_eq_false]
        exact ⟨os[k], List.getElem_mem _, by rw [← HG.out]; simp [HX.out]⟩
      · go_round
        case rel => exact ⟨k + 1, by omega, by go_num, nat_snoc HI.out (by rw [HOV.out]; exact HX.out)⟩
        case measure => simp [intOf]; omega
    · obtain rfl : k = os.length := by omega
      go_wp2_with fail
      go_ret
      refine ⟨⟨-1, rfl, ⟨fun h => by omega, fun h => ?_⟩⟩, rfl⟩
      rw [List.all_eq_false] at h
      obtain ⟨x, hx, hn⟩ := h
      obtain ⟨j, hj, rfl⟩ := List.mem_iff_getElem.1 hx
      have := HI.out j hj
      rw [List.getD_eq_getElem?_getD, List.getElem?_eq_getElem hj] at this
      exact absurd this hn
theorem con69 (O : Option Addr) (cap : Nat) (os : List Int) (w : World) (B : Nat) (h : IntsA w B O os) {b : Bool} (he : os.all b3 = b) :
    Calls Tryd.prog 67 #[.slice O os.length cap, .func (.func 69) #[] #[]] w fun e w' => e = .returned (.bool !b) ∧ w = w' := by
  have HC := Lib.hid (idx69 O cap os w B h)
  have HE := Lib.hid he
  clear he
  go_enter Tryd.func67, Tryd.ntmps67
  go_wp2_with (go_at_call 104; refine HC.out.mono ?_; rintro e w2 ⟨⟨i, rfl, hi⟩, rfl⟩; have HI := Lib.hid hi; clear hi)
  go_ret
  refine ⟨ret_b ?_, rfl⟩
  rcases b with _ | _
  · exact decide_eq_true (HI.out.2 HE.out)
  · exact decide_eq_false fun h => by have := HI.out.1 h; rw [HE.out] at this; cases this

theorem clo87 (x : Int) (w : World) {r : Bool} (hr : bMil x = r) : Calls Tryd.prog 87 #[.int .i64 x] w fun e w' => e = .returned (.bool !r) ∧ w = w' := by
  have hr' : inB x (-1000000) 1000000 = r := hr
  rcases r with _ | _
  all_goals
    have HR := Lib.hid hr'
    clear hr hr'
    go_enter Tryd.func87, Tryd.ntmps87
    go_wp2_with (go_at_call 66; refine (within_b x _ _ _ _ HR.out).mono ?_; rintro e w' ⟨rfl, rfl⟩)
    go_ret
    exact ⟨rfl, rfl⟩
set_option maxHeartbeats 1000000 in
theorem idx87 (O : Option Addr) (cap : Nat) (os : List Int) (w : World) (B : Nat) (h : IntsA w B O os) :
    Calls Tryd.prog 104 #[.slice O os.length cap, .func (.func 87) #[] #[]] w fun e w' => (∃ i : Int, e = .returned (.int .i64 i) ∧ IdxB i (os.all bMil)) ∧ w = w' := by
  have hlen := h.1
  unfold maxLen at hlen
  go_enter Tryd.func104, Tryd.ntmps104
  go_wp2_with fail
  go_loop [8] (fun i => ∃ k : Nat, k ≤ os.length ∧ i = .int .i64 k ∧ Hid (∀ j, j < k → bMil (os.getD j 0) = true)) (fun i => os.length - (intOf i).toNat)
  case atStart => exact ⟨0, Nat.zero_le _, rfl, fun j hj => by omega⟩
  case round =>
    obtain ⟨k, hk, rfl, HI⟩ := hrel
    by_cases hlt : k < os.length
    · obtain ⟨b, off, rfl, hb, hc⟩ := h.at_ hlt
      have hg : os.getD k 0 = os[k] := by rw [List.getD_eq_getElem?_getD, List.getElem?_eq_getElem hlt]; rfl
      have HG := Lib.hid hg
      clear hg
      rcases hx : bMil (os.getD k 0)
      all_goals
        have HX := Lib.hid hx
        generalize hov : os.getD k 0 = ov at *
        have HC := Lib.hid (clo87 ov w hx)
        have HOV := Lib.hid hov
        clear hx hov
        go_wp2_with (go_at_call 87; refine HC.out.mono ?_; rintro e w2 ⟨rfl, rfl⟩)
      · go_ret
        refine ⟨⟨k, rfl, ⟨fun _ => ?_, fun _ => by omega⟩⟩, rfl⟩
        rw [List.all_eq_false]
        exact ⟨os[k], List.getElem_mem _, by rw [← HG.out]; simp [HX.out]⟩
      · go_round
        case rel => exact ⟨k + 1, by omega, by go_num, nat_snoc HI.out (by rw [HOV.out]; exact HX.out)⟩
        case measure => simp [intOf]; omega
    · obtain rfl : k = os.length := by omega
      go_wp2_with fail
      go_ret
      refine ⟨⟨-1, rfl, ⟨fun h => by omega, fun h => ?_⟩⟩, rfl⟩
      rw [List.all_eq_false] at h
      obtain ⟨x, hx, hn⟩ := h
      obtain ⟨j, hj, rfl⟩ := List.mem_iff_getElem.1 hx
      have := HI.out j hj
      rw [List.getD_eq_getElem?_getD, List.getElem?_eq_getElem hj] at this
      exact absurd this hn
theorem con87 (O : Option Addr) (cap : Nat) (os : List Int) (w : World) (B : Nat) (h : IntsA w B O os) {b : Bool} (he : os.all bMil = b) :
    Calls Tryd.prog 67 #[.slice O os.length cap, .func (.func 87) #[] #[]] w fun e w' => e = .returned (.bool !b) ∧ w = w' := by
  have HC := Lib.hid (idx87 O cap os w B h)
  have HE := Lib.hid he
  clear he
  go_enter Tryd.func67, Tryd.ntmps67
  go_wp2_with (go_at_call 104; refine HC.out.mono ?_; rintro e w2 ⟨⟨i, rfl, hi⟩, rfl⟩; have HI := Lib.hid hi; clear hi)
  go_ret
  refine ⟨ret_b ?_, rfl⟩
  rcases b with _ | _
  · exact decide_eq_true (HI.out.2 HE.out)
  · exact decide_eq_false fun h => by have := HI.out.1 h; rw [HE.out] at this; cases this
end Go.Proofs.YtonpemikodajdaaDoor
