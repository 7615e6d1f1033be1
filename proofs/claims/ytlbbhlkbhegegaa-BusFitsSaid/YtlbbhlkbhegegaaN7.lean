/- Walks: bus.CheckNet. -/
import Derived.Test.YtlbbhlkbhegegaaN2
import Derived.Test.YtlbbhlkbhegegaaN5
import Derived.Test.YtlbbhlkbhegegaaChk
namespace Go.Proofs.Ytlbbhlkbhegegaa
open Go.RowKit

theorem valid_b (A1 A2 : Option Addr) (c1 c2 : Nat) (n : MNet) (b : Bool) (w : World) (h : NetA w w.heap.size A1 A2 n) (hb : netB n = b) :
    Calls Try.prog 54 #[.agg #[.slice A1 n.gates.length c1, .slice A2 n.flows.length c2]] w fun e w' => e = .returned (.bool b) ∧ Below w.heap.size w w' := hb ▸ valid_any A1 A2 c1 c2 n w h
theorem order_n (A1 A2 : Option Addr) (c1 c2 : Nat) (n : MNet) (w : World) (h : NetA w w.heap.size A1 A2 n) (hv : netB n = true) (hn : orderS n = none) :
    Calls Try.prog 55 #[.agg #[.slice A1 n.gates.length c1, .slice A2 n.flows.length c2]] w fun e w' => ∃ v, e = .returned (.tuple #[v, .bool false]) ∧ Below w.heap.size w w' :=
  (order_any A1 A2 c1 c2 n w h hv).mono fun _ _ ⟨v, he, hb, _⟩ => ⟨v, by rw [he, hn]; rfl, hb⟩
theorem order_s (A1 A2 : Option Addr) (c1 c2 : Nat) (n : MNet) (w : World) (h : NetA w w.heap.size A1 A2 n) (hv : netB n = true) (l : List Int) (hn : orderS n = some l) :
    Calls Try.prog 55 #[.agg #[.slice A1 n.gates.length c1, .slice A2 n.flows.length c2]] w fun e w' => ∃ v, e = .returned (.tuple #[v, .bool true]) ∧ Below w.heap.size w w' ∧ OutI w' w.heap.size v l :=
  (order_any A1 A2 c1 c2 n w h hv).mono fun _ _ ⟨v, he, hb, ho⟩ => ⟨v, by rw [he, hn]; rfl, hb, ho l hn⟩

set_option maxHeartbeats 1000000 in
theorem check_any (A1 A2 : Option Addr) (c1 c2 : Nat) (n : MNet) (w : World) (h : NetA w w.heap.size A1 A2 n) :
    Calls Try.prog 17 #[.agg #[.slice A1 n.gates.length c1, .slice A2 n.flows.length c2]] w fun e w' => e = .returned (.int .i64 (checkS n)) ∧ Below w.heap.size w w' := by
  have hE := NetEnv.make (c1 := c1) (c2 := c2) (t := 25) h
  rcases hv : netB n
  · have HV := Lib.hid hv
    clear hv h
    go_enter Try.func17, Try.ntmps17
    go_wp2_with (go_at_call 54; refine (valid_b _ _ _ _ n _ _ (hE.net.more (Nat.le_of_lt hE.size)) HV.out).mono ?_; rintro e w2 ⟨rfl, hb2⟩)
    go_ret
    exact ⟨ret_i (check_45 HV.out).symm, (hE.below hb2 hE.size).old⟩
  have hl1 := (netB_len hv).1
  have hl2 := (netB_len hv).2
  have HV := Lib.hid hv
  clear hv h
  rcases hs : orderS n with _ | l
  · have HS := Lib.hid hs
    clear hs
    go_enter Try.func17, Try.ntmps17
    go_wp2_with (first
      | (go_at_call 54; refine (valid_b _ _ _ _ n _ _ (hE.net.more (Nat.le_of_lt hE.size)) HV.out).mono ?_; rintro e w2 ⟨rfl, hb2⟩; have hE2 := hE.below hb2 hE.size; have q0 := hE2.c0; have q1 := hE2.c1)
      | (go_at_call 55; refine (order_n _ _ _ _ n _ (hE2.net.more (Nat.le_of_lt hE2.size)) HV.out HS.out).mono ?_; rintro e w3 ⟨v, rfl, hb3⟩; have hE3 := hE2.below hb3 hE2.size))
    go_ret
    exact ⟨ret_i (check_46 HV.out HS.out).symm, hE3.old⟩
  have HS := Lib.hid hs
  clear hs
  go_enter Try.func17, Try.ntmps17
  go_wp2_with (first
      | (go_at_call 54; refine (valid_b _ _ _ _ n _ _ (hE.net.more (Nat.le_of_lt hE.size)) HV.out).mono ?_; rintro e w2 ⟨rfl, hb2⟩; have hE2 := hE.below hb2 hE.size; have q0 := hE2.c0; have q1 := hE2.c1)
      | (go_at_call 55; refine (order_s _ _ _ _ n _ (hE2.net.more (Nat.le_of_lt hE2.size)) HV.out _ HS.out).mono ?_; rintro e w3 ⟨v, rfl, hb3, hO3⟩; have hE3 := hE2.below hb3 hE2.size; have q3 := hE3.c0))
  clear hO3 hb2 hb3 hE hE2 q0 q1 q3
  go_loopw [23] (fun i wr => ∃ k : Nat, k ≤ n.gates.length ∧ i = .int .i64 k ∧ (∀ j, j < k → rateOk n j = true) ∧ NetEnv w w.heap.size A1 c1 A2 c2 n wr) (fun i _ => n.gates.length - (intOf i).toNat)
  case atStart => exact ⟨0, Nat.zero_le _, rfl, by omega, hE3⟩
  case round =>
    clear hE3
    obtain ⟨k, hk, rfl, hok, hE⟩ := hrel
    obtain ⟨wo, rfl⟩ : ∃ wo : World, wo = wr := ⟨_, rfl⟩
    have HOK := Lib.hid hok
    clear hok
    have hsz := hE.size
    have q0 := hE.c0
    have q1 := hE.c1
    by_cases hlt : k < n.gates.length
    · obtain ⟨g, b, off, hg, rfl, hb, hc0, hc1⟩ := hE.net.2.2.1.at_ hlt
      have HG := Lib.hid hg
      clear hg
      have hb1 : Below wo.heap.size wo (wo.alloc (.cells #[.int .i64 g.rate, .int .i64 g.delay] 74)) := (Below.refl _ _).alloc (by omega) _
      have hE1 := hE.below hb1 hsz
      have q11 := hE1.c1
      go_wp2_with fail
      have n0 := newcell wo #[.int .i64 g.rate, .int .i64 g.delay] 74 0
      simp only [List.getElem?_toArray, List.getElem?_cons_zero] at n0
      generalize hW : wo.alloc (.cells #[.int .i64 g.rate, .int .i64 g.delay] 74) = w4 at *
      have hs4 : wo.heap.size + 1 = w4.heap.size := by rw [← hW]; simp
      clear hW
      go_loopw [7, 31] (fun r i wy => ∃ m : Nat, m ≤ n.flows.length ∧ i = .int .i64 m ∧ r = .int .i64 (sumRate (n.flows.take m) k) ∧ Below w4.heap.size w4 wy) (fun _ i _ => n.flows.length - (intOf i).toNat)
      case atStart => exact ⟨0, Nat.zero_le _, rfl, rfl, Below.refl _ _⟩
      case round =>
        obtain ⟨m, hm, rfl, rfl, hbw⟩ := hrel
        have hbd := sumRate_bd HV.out (k : Int) m hm
        have hE := hE1.below hbw (by omega)
        have hszr := hbw.size
        by_cases hlm : m < n.flows.length
        · obtain ⟨f, fb, foff, Ap, cp, hf, rfl, hfb, hfc0, hfc1, hfc2, hcp, hp⟩ := hE.net.2.2.2.at_ hlm
          have hpl := hp.1
          unfold maxLen at hpl
          have hfr := (netB_flow HV.out hf).1
          unfold flowB at hfr
          rw [Bool.and_eq_true, inB_iff, inB_iff] at hfr
          obtain ⟨_, hfr⟩ := hfr
          have HSU := Lib.hid (sumRate_succ n.flows (k : Int) m f hf)
          clear hf
          generalize sumRate (n.flows.take m) (k : Int) = S at *
          have hp1 := hp.alloc (B' := w.heap.size) (by omega) (.cells #[.int .i64 f.burst, .int .i64 f.rate, .slice Ap f.path.length cp] 47) (Nat.le_refl _)
          rcases hh : hasI f.path (k : Int)
          all_goals
            have HH := Lib.hid hh
            clear hh
            go_wp2_with (go_at_call 56; refine (contains_b _ _ _ f.path (k : Int) _ _ _ hp1 rfl HH.out).mono ?_; rintro e w' ⟨rfl, rfl⟩)
            go_roundw
            case rel => exact ⟨m + 1, by omega, by go_num, int_c (by rw [HSU.out, HH.out]; simp), hbw.trans ((Below.refl _ _).alloc hszr _)⟩
            case measure => simp [intOf]; omega
        · obtain rfl : m = n.flows.length := by omega
          have n0' : wr.cell? ⟨wo.heap.size, 0, none⟩ = some (.int .i64 g.rate) := (bcell hbw _ _ (by omega)).trans n0
          rw [List.take_of_length_le (Nat.le_refl _)] at *
          have HR := Lib.hid (rateOk_of HG.out)
          generalize sumRate n.flows (k : Int) = S at *
          by_cases hr : g.rate < S
          · go_wp2_with fail
            go_ret
            exact ⟨ret_i (check_47 HV.out HS.out hlt (by rw [HR.out]; simpa using hr)).symm, hE.old⟩
          · go_wp2_with fail
            go_roundw
            case rel => exact ⟨k + 1, by omega, by go_num, nat_snoc HOK.out (by rw [HR.out]; simpa using hr), hE⟩
            case measure => simp [intOf]; omega
    · have HZ := Lib.hid (check_0 HV.out HS.out fun j hj => HOK.out j (by omega))
      clear HOK
      go_wp2_with fail
      go_ret
      exact ⟨ret_i HZ.out.symm, hE.old⟩
end Go.Proofs.Ytlbbhlkbhegegaa
