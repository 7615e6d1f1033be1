/- Walks: bus.valid and its reference. -/
import Derived.Test.YtlbbhlkbhegegaaN1
namespace Go.Proofs.Ytlbbhlkbhegegaa
open Go.RowKit

set_option maxHeartbeats 1000000 in
theorem valid_any (A1 A2 : Option Addr) (c1 c2 : Nat) (n : MNet) (w : World) (h : NetA w w.heap.size A1 A2 n) :
    Calls Try.prog 54 #[.agg #[.slice A1 n.gates.length c1, .slice A2 n.flows.length c2]] w fun e w' => e = .returned (.bool (netB n)) ∧ Below w.heap.size w w' := by
  have hl1 := h.1
  have hl2 := h.2.1
  unfold maxLen at hl1 hl2
  by_cases hlim : 30 < n.gates.length ∨ 40 < n.flows.length
  · have HF := Lib.hid (netB_no1 hlim)
    go_enter Try.func54, Try.ntmps54
    rcases hlim with hlim | hlim
    · go_wp2
      go_ret
      exact ⟨ret_b HF.out.symm, (Below.refl _ _).alloc (Nat.le_refl _) _⟩
    · by_cases h1 : 30 < n.gates.length
      all_goals
        go_wp2
        go_ret
        exact ⟨ret_b HF.out.symm, (Below.refl _ _).alloc (Nat.le_refl _) _⟩
  have hg30 : n.gates.length ≤ 30 := by omega
  have hf40 : n.flows.length ≤ 40 := by omega
  clear hlim
  go_enter Try.func54, Try.ntmps54
  go_wp2
  have hE := NetEnv.make (c1 := c1) (c2 := c2) (t := 25) h
  generalize hW : World.alloc w _ = w1 at *
  clear hW h
  go_loopw [22] (fun i wr => ∃ k : Nat, k ≤ n.gates.length ∧ i = .int .i64 k ∧ (∀ j g, j < k → n.gates[j]? = some g → gateB g = true) ∧ NetEnv w w.heap.size A1 c1 A2 c2 n wr) (fun i _ => n.gates.length - (intOf i).toNat)
  case atStart => exact ⟨0, Nat.zero_le _, rfl, by omega, hE⟩
  case round =>
    clear hE
    obtain ⟨k, hk, rfl, hok, hE⟩ := hrel
    have HOK := Lib.hid hok
    clear hok
    have hsz := hE.size
    have q0 := hE.c0
    have q1 := hE.c1
    by_cases hlt : k < n.gates.length
    · obtain ⟨g, b, off, hg, rfl, hb, hc0, hc1⟩ := hE.net.2.2.1.at_ hlt
      have HG := Lib.hid hg
      clear hg
      have hb1 : Below (w.heap.size + 1) wr (wr.alloc (.cells #[.int .i64 g.rate, .int .i64 g.delay] 74)) := (Below.refl _ _).alloc (by omega) _
      have hE1 := hE.below hb1 (Nat.lt_succ_self _)
      rcases hi1 : inB g.rate 1 10000 <;> rcases hi2 : inB g.delay 1 1000
      all_goals
        have H1 := Lib.hid hi1
        have H2 := Lib.hid hi2
        clear hi1 hi2
        go_wp2_with (first | (go_at_call 67; (with_reducible refine (within_b g.rate _ _ _ _ H1.out).mono ?_); rintro e w' ⟨rfl, rfl⟩) | (go_at_call 67; (with_reducible refine (within_b g.delay _ _ _ _ H2.out).mono ?_); rintro e w' ⟨rfl, rfl⟩))
      rotate_left 3
      · go_roundw
        case rel => exact ⟨k + 1, by omega, by go_num, upto_snoc HOK.out HG.out (by unfold gateB; rw [H1.out, H2.out]; rfl), hE1⟩
        case measure => simp [intOf]; omega
      all_goals
        go_ret
        exact ⟨ret_b (netB_no2 (all_no HG.out (by unfold gateB; rw [H1.out, H2.out]; rfl))).symm, hE1.old⟩
    · have HA := Lib.hid (all_yes (p := gateB) (l := n.gates) fun j g hj hg => HOK.out j g (by omega) hg)
      clear HOK
      go_wp2
      generalize hW : wr = w1 at *
      clear hW q0 q1
      go_loopw [40] (fun i wr => ∃ k : Nat, k ≤ n.flows.length ∧ i = .int .i64 k ∧ (∀ j f, j < k → n.flows[j]? = some f → flowOkB n.gates.length f = true) ∧ NetEnv w w.heap.size A1 c1 A2 c2 n wr) (fun i _ => n.flows.length - (intOf i).toNat)
      case atStart => exact ⟨0, Nat.zero_le _, rfl, by omega, hE⟩
      case round =>
        clear hE hsz
        obtain ⟨k, hk, rfl, hok, hE⟩ := hrel
        have HOK := Lib.hid hok
        clear hok
        have hsz := hE.size
        have q0 := hE.c0
        have q1 := hE.c1
        by_cases hlt : k < n.flows.length
        · obtain ⟨f, b, off, Ap, cp, hf, rfl, hb, hc0, hc1, hc2, hcp, hp⟩ := hE.net.2.2.2.at_ hlt
          have hpl := hp.1
          unfold maxLen at hpl
          have HFl := Lib.hid hf
          clear hf
          have hb1 : Below (w.heap.size + 1) wr (wr.alloc (.cells #[.int .i64 f.burst, .int .i64 f.rate, .slice Ap f.path.length cp] 47)) := (Below.refl _ _).alloc (by omega) _
          have hE1 := hE.below hb1 (Nat.lt_succ_self _)
          have hp1 := hp.below (hb1.mono (B' := w.heap.size) (by omega)) (Nat.le_refl _)
          have n0 := newcell wr #[.int .i64 f.burst, .int .i64 f.rate, .slice Ap f.path.length cp] 47 0
          have n2 := newcell wr #[.int .i64 f.burst, .int .i64 f.rate, .slice Ap f.path.length cp] 47 2
          have hs1 : (wr.alloc (.cells #[.int .i64 f.burst, .int .i64 f.rate, .slice Ap f.path.length cp] 47)).heap.size = wr.heap.size + 1 := by simp
          simp only [List.getElem?_toArray, List.getElem?_cons_succ, List.getElem?_cons_zero] at n0 n2
          rcases hi1 : flowB f.burst f.rate <;> rcases hi2 : inB (f.path.length : Int) 1 8
          all_goals
            have H1 := Lib.hid hi1
            have H2 := Lib.hid hi2
            have HS1 := Lib.hid hs1
            clear hi1 hi2 hs1
            go_wp2_with (first | (go_at_call 67; (with_reducible refine (within_b (f.path.length : Int) _ _ _ _ H2.out).mono ?_); rintro e w' ⟨rfl, rfl⟩) | (go_at_call 84; refine (poured_b _ _ _ _ _ H1.out).mono ?_; rintro e w2 ⟨rfl, hb2⟩; have q2 := (bcell hb2 wr.heap.size 2 (by simp)).trans n2; have hE2 := hE1.below hb2 (by simp; omega); have q20 := hE2.c0; have hs2 := hb2.size; have hp2 := hp1.below hb2 (by simp; omega)))
          rotate_left 3
          · clear hE1 hb1 hp1 n0 n2 hp hc0 hc1 hc2 q0 q1 hE
            go_loop [57] (fun i => ∃ m : Nat, m ≤ f.path.length ∧ i = .int .i64 m ∧ ∀ j, j < m → hopB n.gates.length f.path j = true) (fun i => f.path.length - (intOf i).toNat)
            case atStart => exact ⟨0, Nat.zero_le _, rfl, by omega⟩
            case round =>
              obtain ⟨m, hm, rfl, hops⟩ := hrel
              have HOPS := Lib.hid hops
              clear hops
              by_cases hlm : m < f.path.length
              · obtain ⟨pb, po, rfl, hpb, hpc⟩ := hp2.at_ hlm
                have hpt := hp2.take m
                have HTL : Hid (m = (f.path.take m).length) := by rw [List.length_take]; show m = _; omega
                have HOP : Hid (hopB n.gates.length f.path m = (inB (f.path.getD m 0) 0 ((n.gates.length : Int) - 1) && !hasI (f.path.take m) (f.path.getD m 0))) := rfl
                generalize hx : f.path.getD m 0 = x at *
                clear hx
                rcases hj1 : inB x 0 ((n.gates.length : Int) - 1) <;> rcases hj2 : hasI (f.path.take m) x
                all_goals
                  have J1 := Lib.hid hj1
                  have J2 := Lib.hid hj2
                  clear hj1 hj2
                  go_wp2_with (first | (go_at_call 67; refine (within_b x _ _ _ _ J1.out).mono ?_; rintro e w' ⟨rfl, rfl⟩) | (go_at_call 56; refine (contains_b _ _ _ _ x _ _ _ hpt HTL.out J2.out).mono ?_; rintro e w' ⟨rfl, rfl⟩))
                rotate_left 2
                · go_round
                  case rel => exact ⟨m + 1, by omega, by go_num, nat_snoc HOPS.out (by rw [HOP.out, J1.out, J2.out]; rfl)⟩
                  case measure => simp [intOf]; omega
                all_goals
                  go_ret
                  exact ⟨ret_b (netB_no3 (all_no HFl.out (by unfold flowOkB; rw [show pathB n.gates.length f.path = false from range_no hlm (by rw [HOP.out, J1.out, J2.out]; rfl)]; simp))).symm, hE2.old⟩
              · have HP := Lib.hid (range_yes (p := hopB n.gates.length f.path) (n := f.path.length) fun j hj => HOPS.out j (by omega))
                clear HOPS
                go_wp2
                go_roundw
                case rel => exact ⟨k + 1, by omega, by go_num, upto_snoc HOK.out HFl.out (by unfold flowOkB; rw [H1.out, H2.out, show pathB n.gates.length f.path = true from HP.out]; rfl), hE2⟩
                case measure => simp [intOf]; omega
          all_goals
            go_ret
            exact ⟨ret_b (netB_no3 (all_no HFl.out (by unfold flowOkB; rw [H1.out, H2.out]; rfl))).symm, hE2.old⟩
        · have HA2 := Lib.hid (all_yes (p := flowOkB n.gates.length) (l := n.flows) fun j g hj hg => HOK.out j g (by omega) hg)
          clear HOK
          go_wp2
          go_ret
          exact ⟨ret_b (netB_yes hg30 hf40 HA.out HA2.out).symm, hE.old⟩
end Go.Proofs.Ytlbbhlkbhegegaa
