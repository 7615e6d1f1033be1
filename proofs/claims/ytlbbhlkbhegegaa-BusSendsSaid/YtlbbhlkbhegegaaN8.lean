/- Walks: ignitionref04.CheckNet. -/
import Derived.Test.YtlbbhlkbhegegaaN3
import Derived.Test.YtlbbhlkbhegegaaN6
import Derived.Test.YtlbbhlkbhegegaaChk
namespace Go.Proofs.Ytlbbhlkbhegegaa
open Go.RowKit

theorem right_b (A1 A2 : Option Addr) (c1 c2 : Nat) (n : MNet) (b : Bool) (w : World) (h : NetA w w.heap.size A1 A2 n) (hb : netB n = b) :
    Calls Try.prog 57 #[.agg #[.slice A1 n.gates.length c1, .slice A2 n.flows.length c2]] w fun e w' => e = .returned (.bool b) ∧ Below w.heap.size w w' := hb ▸ right_any A1 A2 c1 c2 n w h
theorem rorder_n (A1 A2 : Option Addr) (c1 c2 : Nat) (n : MNet) (w : World) (h : NetA w w.heap.size A1 A2 n) (hv : netB n = true) (hn : orderS n = none) :
    Calls Try.prog 58 #[.agg #[.slice A1 n.gates.length c1, .slice A2 n.flows.length c2]] w fun e w' => ∃ v, e = .returned (.tuple #[v, .bool false]) ∧ Below w.heap.size w w' :=
  (rorder_any A1 A2 c1 c2 n w h hv).mono fun _ _ ⟨v, he, hb, _⟩ => ⟨v, by rw [he, hn]; rfl, hb⟩
theorem rorder_s (A1 A2 : Option Addr) (c1 c2 : Nat) (n : MNet) (w : World) (h : NetA w w.heap.size A1 A2 n) (hv : netB n = true) (l : List Int) (hn : orderS n = some l) :
    Calls Try.prog 58 #[.agg #[.slice A1 n.gates.length c1, .slice A2 n.flows.length c2]] w fun e w' => ∃ v, e = .returned (.tuple #[v, .bool true]) ∧ Below w.heap.size w w' ∧ OutI w' w.heap.size v l :=
  (rorder_any A1 A2 c1 c2 n w h hv).mono fun _ _ ⟨v, he, hb, ho⟩ => ⟨v, by rw [he, hn]; rfl, hb, ho l hn⟩

set_option maxHeartbeats 1000000 in
theorem rcheck_any (A1 A2 : Option Addr) (c1 c2 : Nat) (n : MNet) (w : World) (h : NetA w w.heap.size A1 A2 n) :
    Calls Try.prog 18 #[.agg #[.slice A1 n.gates.length c1, .slice A2 n.flows.length c2]] w fun e w' => e = .returned (.int .i64 (checkS n)) ∧ Below w.heap.size w w' := by
  have hE := NetEnv.make (c1 := c1) (c2 := c2) (t := 25) h
  rcases hv : netB n
  · have HV := Lib.hid hv
    clear hv h
    go_enter Try.func18, Try.ntmps18
    go_wp2_with (go_at_call 57; refine (right_b _ _ _ _ n _ _ (hE.net.more (Nat.le_of_lt hE.size)) HV.out).mono ?_; rintro e w2 ⟨rfl, hb2⟩)
    go_ret
    exact ⟨ret_i (check_45 HV.out).symm, (hE.below hb2 hE.size).old⟩
  have hl1 := (netB_len hv).1
  have hl2 := (netB_len hv).2
  have HV := Lib.hid hv
  clear hv h
  rcases hs : orderS n with _ | l
  · have HS := Lib.hid hs
    clear hs
    go_enter Try.func18, Try.ntmps18
    go_wp2_with (first
      | (go_at_call 57; refine (right_b _ _ _ _ n _ _ (hE.net.more (Nat.le_of_lt hE.size)) HV.out).mono ?_; rintro e w2 ⟨rfl, hb2⟩; have hE2 := hE.below hb2 hE.size; have q0 := hE2.c0; have q1 := hE2.c1)
      | (go_at_call 58; refine (rorder_n _ _ _ _ n _ (hE2.net.more (Nat.le_of_lt hE2.size)) HV.out HS.out).mono ?_; rintro e w3 ⟨v, rfl, hb3⟩; have hE3 := hE2.below hb3 hE2.size))
    go_ret
    exact ⟨ret_i (check_46 HV.out HS.out).symm, hE3.old⟩
  have HS := Lib.hid hs
  clear hs
  go_enter Try.func18, Try.ntmps18
  go_wp2_with (first
      | (go_at_call 57; refine (right_b _ _ _ _ n _ _ (hE.net.more (Nat.le_of_lt hE.size)) HV.out).mono ?_; rintro e w2 ⟨rfl, hb2⟩; have hE2 := hE.below hb2 hE.size; have q0 := hE2.c0; have q1 := hE2.c1)
      | (go_at_call 58; refine (rorder_s _ _ _ _ n _ (hE2.net.more (Nat.le_of_lt hE2.size)) HV.out _ HS.out).mono ?_; rintro e w3 ⟨v, rfl, hb3, hO3⟩; have hE3 := hE2.below hb3 hE2.size; have q3 := hE3.c0; have q4 := hE3.c1))
  clear hO3 hb2 hb3 hE hE2 q0 q1
  go_loop [5] (fun i => ∃ k : Nat, k ≤ n.gates.length ∧ i = .int .i64 k ∧ (∀ j, j < k → rateOk n j = true)) (fun i => n.gates.length - (intOf i).toNat)
  case atStart => exact ⟨0, Nat.zero_le _, rfl, by omega⟩
  case round =>
    obtain ⟨k, hk, rfl, hok⟩ := hrel
    have HOK := Lib.hid hok
    clear hok
    by_cases hlt : k < n.gates.length
    · obtain ⟨g, b, off, hg, rfl, hb, hc0, hc1⟩ := hE3.net.2.2.1.at_ hlt
      have HG := Lib.hid hg
      clear hg
      go_wp2_with fail
      go_loop [6, 7] (fun r i => ∃ m : Nat, m ≤ n.flows.length ∧ i = .int .i64 m ∧ r = .int .i64 (sumRate (n.flows.take m) k)) (fun _ i => n.flows.length - (intOf i).toNat)
      case atStart => exact ⟨0, Nat.zero_le _, rfl, rfl⟩
      case round =>
        obtain ⟨m, hm, rfl, rfl⟩ := hrel
        have hbd := sumRate_bd HV.out (k : Int) m hm
        by_cases hlm : m < n.flows.length
        · obtain ⟨f, fb, foff, Ap, cp, hf, rfl, hfb, hfc0, hfc1, hfc2, hcp, hp⟩ := hE3.net.2.2.2.at_ hlm
          have hpl := hp.1
          unfold maxLen at hpl
          have hfr := (netB_flow HV.out hf).1
          unfold flowB at hfr
          rw [Bool.and_eq_true, inB_iff, inB_iff] at hfr
          obtain ⟨_, hfr⟩ := hfr
          have HSU := Lib.hid (sumRate_succ n.flows (k : Int) m f hf)
          clear hf
          generalize sumRate (n.flows.take m) (k : Int) = S at *
          rcases hh : hasI f.path (k : Int)
          all_goals
            have HH := Lib.hid hh
            clear hh
            go_wp2_with (go_at_call 59; refine (has_b _ _ _ f.path (k : Int) _ _ _ hp rfl HH.out).mono ?_; rintro e w' ⟨rfl, rfl⟩)
            go_round
            case rel => exact ⟨m + 1, by omega, by go_num, int_c (by rw [HSU.out, HH.out]; simp)⟩
            case measure => simp [intOf]; omega
        · obtain rfl : m = n.flows.length := by omega
          rw [List.take_of_length_le (Nat.le_refl _)] at *
          have HR := Lib.hid (rateOk_of HG.out)
          generalize sumRate n.flows (k : Int) = S at *
          by_cases hr : g.rate < S
          · go_wp2_with fail
            go_ret
            exact ⟨ret_i (check_47 HV.out HS.out hlt (by rw [HR.out]; simpa using hr)).symm, hE3.old⟩
          · go_wp2_with fail
            go_round
            case rel => exact ⟨k + 1, by omega, by go_num, nat_snoc HOK.out (by rw [HR.out]; simpa using hr)⟩
            case measure => simp [intOf]; omega
    · have HZ := Lib.hid (check_0 HV.out HS.out fun j hj => HOK.out j (by omega))
      clear HOK
      go_wp2_with fail
      go_ret
      exact ⟨ret_i HZ.out.symm, hE3.old⟩
end Go.Proofs.Ytlbbhlkbhegegaa
