/- Plain: when releases keep the offsets; walks: slices.IndexFunc and ContainsFunc over ints at Keeps' closure. -/
import Derived.Test.YtlbbhlkbhegegaaPl1
namespace Go.Proofs.Ytlbbhlkbhegegaa
open Go.RowKit

def offB (x : Int) : Bool := inB x 0 1000000
theorem keeps1_b (x : Int) (w : World) {r : Bool} (hr : offB x = r) : Calls Try.prog 82 #[.int .i64 x] w fun e w' => e = .returned (.bool !r) ∧ Below w.heap.size w w' := by
  have hr' : inB x 0 1000000 = r := hr
  rcases r with _ | _
  all_goals
    have HR := Lib.hid hr'
    clear hr hr'
    go_enter Try.func82, Try.ntmps82
    go_wp2_with (go_at_call 67; refine (within_b x _ _ _ _ HR.out).mono ?_; rintro e w' ⟨rfl, rfl⟩)
    go_ret
    exact ⟨rfl, Below.refl _ _⟩

set_option maxRecDepth 100000 in
set_option maxHeartbeats 2000000 in
theorem indexOff_any (O : Option Addr) (cap : Nat) (os : List Int) (w : World) (h : IntsA w w.heap.size O os) :
    Calls Try.prog 109 #[.slice O os.length cap, .func (.func 82) #[] #[]] w fun e w' => ∃ i : Int, e = .returned (.int .i64 i) ∧ ((0 ≤ i ↔ os.all offB = false)) ∧ Below w.heap.size w w' := by
  have hlen := h.1
  unfold maxLen at hlen
  go_enter Try.func109, Try.ntmps109
  go_wp2_with fail
  go_loopw [8] (fun i wr => ∃ k : Nat, k ≤ os.length ∧ i = .int .i64 k ∧ Hid (∀ j, j < k → offB (os.getD j 0) = true) ∧ Below w.heap.size w wr) (fun i _ => os.length - (intOf i).toNat)
  case atStart => exact ⟨0, Nat.zero_le _, rfl, fun j hj => by omega, Below.refl _ _⟩
  case round =>
    obtain ⟨k, hk, rfl, HI, hbw⟩ := hrel
    have hsz := hbw.size
    by_cases hlt : k < os.length
    · obtain ⟨b, off, rfl, hb, hc⟩ := (h.below hbw (Nat.le_refl _)).at_ hlt
      have hg : os.getD k 0 = os[k] := by rw [List.getD_eq_getElem?_getD, List.getElem?_eq_getElem hlt]; rfl
      have HG := Lib.hid hg
      clear hg
      rcases hx : offB (os.getD k 0)
      all_goals
        have HX := Lib.hid hx
        generalize hov : os.getD k 0 = ov at *
        have HC := Lib.hid (keeps1_b ov wr hx)
        have HOV := Lib.hid hov
        clear hx hov
        go_wp2_with (go_at_call 82; refine HC.out.mono ?_; rintro e w2 ⟨rfl, hb2⟩)
      · go_ret
        refine ⟨k, rfl, ⟨fun _ => ?_, fun _ => by omega⟩, hbw.trans (hb2.mono hsz)⟩
        rw [List.all_eq_false]
        exact ⟨os[k], List.getElem_mem _, by rw [← HG.out]; simp [HX.out]⟩
      · go_roundw
        case rel => exact ⟨k + 1, by omega, by go_num, nat_snoc HI.out (by rw [HOV.out]; exact HX.out), hbw.trans (hb2.mono hsz)⟩
        case measure => simp [intOf]; omega
    · obtain rfl : k = os.length := by omega
      go_wp2_with fail
      go_ret
      refine ⟨-1, rfl, ⟨fun h => by omega, fun h => ?_⟩, hbw⟩
      rw [List.all_eq_false] at h
      obtain ⟨x, hx, hn⟩ := h
      obtain ⟨j, hj, rfl⟩ := List.mem_iff_getElem.1 hx
      have := HI.out j hj
      rw [List.getD_eq_getElem?_getD, List.getElem?_eq_getElem hj] at this
      exact absurd this hn
theorem containsOff_b (O : Option Addr) (cap : Nat) (os : List Int) (w : World) (h : IntsA w w.heap.size O os) {b : Bool} (he : os.all offB = b) :
    Calls Try.prog 81 #[.slice O os.length cap, .func (.func 82) #[] #[]] w fun e w' => e = .returned (.bool !b) ∧ Below w.heap.size w w' := by
  have HC := Lib.hid (indexOff_any O cap os w h)
  have HE := Lib.hid he
  clear he
  go_enter Try.func81, Try.ntmps81
  go_wp2_with (go_at_call 109; refine HC.out.mono ?_; rintro e w2 ⟨i, rfl, hi, hb2⟩; have HI := Lib.hid hi; clear hi)
  go_ret
  refine ⟨ret_b ?_, hb2⟩
  rcases b with _ | _
  · exact decide_eq_true (HI.out.2 HE.out)
  · exact decide_eq_false fun h => by have := HI.out.1 h; rw [HE.out] at this; cases this
end Go.Proofs.Ytlbbhlkbhegegaa
