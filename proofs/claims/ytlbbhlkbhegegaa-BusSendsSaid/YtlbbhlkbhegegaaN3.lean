/- Walks: ignitionref04.right. -/
import Derived.Test.YtlbbhlkbhegegaaN1
namespace Go.Proofs.Ytlbbhlkbhegegaa
open Go.RowKit

theorem hopB_no2 {G m j : Nat} {p : List Int} (hj : j < m) (hm : m < p.length) (he : p.getD j 0 = p.getD m 0) : hopB G p m = false := by
  unfold hopB
  rw [hasI_hit (k := j) (by rw [List.length_take]; omega) (by rw [← he]; simp [List.getD_eq_getElem?_getD, hj])]
  simp
theorem hopB_yes {G m : Nat} {p : List Int} (h1 : inB (p.getD m 0) 0 ((G : Int) - 1) = true) (h : ∀ j, j < m → p.getD j 0 ≠ p.getD m 0) : hopB G p m = true := by
  unfold hopB
  rw [h1, hasI_miss (fun j hj => ?_)]
  · rfl
  · rw [List.length_take] at hj
    have := h j (by omega)
    simpa [List.getD_eq_getElem?_getD, show j < m by omega] using this

set_option maxHeartbeats 1000000 in
theorem right_any (A1 A2 : Option Addr) (c1 c2 : Nat) (n : MNet) (w : World) (h : NetA w w.heap.size A1 A2 n) :
    Calls Try.prog 57 #[.agg #[.slice A1 n.gates.length c1, .slice A2 n.flows.length c2]] w fun e w' => e = .returned (.bool (netB n)) ∧ Below w.heap.size w w' := by
  have hl1 := h.1
  have hl2 := h.2.1
  unfold maxLen at hl1 hl2
  by_cases hlim : 30 < n.gates.length ∨ 40 < n.flows.length
  · have HF := Lib.hid (netB_no1 hlim)
    go_enter Try.func57, Try.ntmps57
    rcases hlim with hlim | hlim
    · go_wp2
      go_ret
      exact ⟨ret_b HF.out.symm, (Below.refl _ _).alloc (Nat.le_refl _) _⟩
    · by_cases h1 : 30 < n.gates.length
      all_goals
        go_wp2
        go_ret
        exact ⟨ret_b HF.out.symm, (Below.refl _ _).alloc (Nat.le_refl _) _⟩
  have hg30 : n.gates.length ≤ 30 := by omega
  have hf40 : n.flows.length ≤ 40 := by omega
  clear hlim
  go_enter Try.func57, Try.ntmps57
  go_wp2
  have hE := NetEnv.make (c1 := c1) (c2 := c2) (t := 25) h
  generalize hW : World.alloc w _ = w1 at *
  clear hW h
  have q0 := hE.c0
  have q1 := hE.c1
  go_loop [3] (fun i => ∃ k : Nat, k ≤ n.gates.length ∧ i = .int .i64 k ∧ (∀ j g, j < k → n.gates[j]? = some g → gateB g = true)) (fun i => n.gates.length - (intOf i).toNat)
  case atStart => exact ⟨0, Nat.zero_le _, rfl, by omega⟩
  case round =>
    obtain ⟨k, hk, rfl, hok⟩ := hrel
    have HOK := Lib.hid hok
    clear hok
    by_cases hlt : k < n.gates.length
    · obtain ⟨g, b, off, hg, rfl, hb, hc0, hc1⟩ := hE.net.2.2.1.at_ hlt
      have HG := Lib.hid hg
      clear hg
      rcases hi1 : inB g.rate 1 10000 <;> rcases hi2 : inB g.delay 1 1000
      all_goals
        have H1 := Lib.hid hi1
        have H2 := Lib.hid hi2
        clear hi1 hi2
        go_wp2_with (first | (go_at_call 64; (with_reducible refine (rwithin_b g.rate _ _ _ _ H1.out).mono ?_); rintro e w' ⟨rfl, rfl⟩) | (go_at_call 64; (with_reducible refine (rwithin_b g.delay _ _ _ _ H2.out).mono ?_); rintro e w' ⟨rfl, rfl⟩))
      rotate_left 3
      · go_round
        case rel => exact ⟨k + 1, by omega, by go_num, upto_snoc HOK.out HG.out (by unfold gateB; rw [H1.out, H2.out]; rfl)⟩
        case measure => simp [intOf]; omega
      all_goals
        go_ret
        exact ⟨ret_b (netB_no2 (all_no HG.out (by unfold gateB; rw [H1.out, H2.out]; rfl))).symm, hE.old⟩
    · have HA := Lib.hid (all_yes (p := gateB) (l := n.gates) fun j g hj hg => HOK.out j g (by omega) hg)
      clear HOK
      go_wp2
      clear q0 q1
      go_loopw [4] (fun i wr => ∃ k : Nat, k ≤ n.flows.length ∧ i = .int .i64 k ∧ (∀ j f, j < k → n.flows[j]? = some f → flowOkB n.gates.length f = true) ∧ NetEnv w w.heap.size A1 c1 A2 c2 n wr) (fun i _ => n.flows.length - (intOf i).toNat)
      case atStart => exact ⟨0, Nat.zero_le _, rfl, by omega, hE⟩
      case round =>
        clear hE
        obtain ⟨k, hk, rfl, hok, hE⟩ := hrel
        have HOK := Lib.hid hok
        clear hok
        have hsz := hE.size
        have q0 := hE.c0
        have q1 := hE.c1
        by_cases hlt : k < n.flows.length
        · obtain ⟨f, b, off, Ap, cp, hf, rfl, hb, hc0, hc1, hc2, hcp, hp⟩ := hE.net.2.2.2.at_ hlt
          have hpl := hp.1
          unfold maxLen at hpl
          have HFl := Lib.hid hf
          clear hf
          have hb1 : Below (w.heap.size + 1) wr (wr.alloc (.cells #[.int .i64 f.burst, .int .i64 f.rate, .slice Ap f.path.length cp] 47)) := (Below.refl _ _).alloc (by omega) _
          have hE1 := hE.below hb1 (Nat.lt_succ_self _)
          have hp1 := hp.below (hb1.mono (B' := w.heap.size) (by omega)) (Nat.le_refl _)
          have n2 := newcell wr #[.int .i64 f.burst, .int .i64 f.rate, .slice Ap f.path.length cp] 47 2
          simp only [List.getElem?_toArray, List.getElem?_cons_succ, List.getElem?_cons_zero] at n2
          rcases hi1 : flowB f.burst f.rate <;> rcases hi2 : inB (f.path.length : Int) 1 8
          all_goals
            have H1 := Lib.hid hi1
            have H2 := Lib.hid hi2
            clear hi1 hi2
            go_wp2_with (first | (go_at_call 64; (with_reducible refine (rwithin_b (f.path.length : Int) _ _ _ _ H2.out).mono ?_); rintro e w' ⟨rfl, rfl⟩) | (go_at_call 86; refine (rflow_b _ _ _ _ _ H1.out).mono ?_; rintro e w2 ⟨rfl, hb2⟩; have q2 := (bcell hb2 wr.heap.size 2 (by simp)).trans n2; have hE2 := hE1.below hb2 (by simp; omega); have q20 := hE2.c0; have hs2 := hb2.size; have hp2 := (hp1.below hb2 (by simp; omega)).more hs2))
          rotate_left 3
          · clear hE1 hb1 hp1 n2 hp hc0 hc1 hc2 q0 q1 hE
            obtain ⟨wo, rfl⟩ : ∃ wo : World, wo = wr := ⟨_, rfl⟩
            go_loopw [6] (fun i wx => ∃ m : Nat, m ≤ f.path.length ∧ i = .int .i64 m ∧ (∀ j, j < m → hopB n.gates.length f.path j = true) ∧ ∃ nq, wx = w2.drewN nq) (fun i _ => f.path.length - (intOf i).toNat)
            case atStart => exact ⟨0, Nat.zero_le _, rfl, by omega, 0, rfl⟩
            case round =>
              obtain ⟨m, hm, rfl, hops, nq0, hwx⟩ := hrel
              obtain ⟨wx, rfl⟩ : ∃ wx : World, wx = wr := ⟨_, rfl⟩
              have HOPS := Lib.hid hops
              clear hops
              have q2 : wx.cell? ⟨wo.heap.size, 2, none⟩ = some (.slice Ap f.path.length cp) := by rw [hwx]; exact q2
              have q20 : wx.cell? ⟨w.heap.size, 0, none⟩ = some (.slice A1 n.gates.length c1) := by rw [hwx]; exact q20
              have hp2 : IntsA wx w2.heap.size Ap f.path := by rw [hwx]; exact hp2
              have hE2 : NetEnv w w.heap.size A1 c1 (some ⟨b, off, none⟩) c2 n wx := by rw [hwx]; exact hE2.drewN _
              have HWX := Lib.hid hwx
              clear hwx
              by_cases hlm : m < f.path.length
              · obtain ⟨pb, po, rfl, hpb, hpc⟩ := hp2.at_ hlm
                generalize hx : f.path.getD m 0 = x at *
                have HX := Lib.hid hx
                clear hx
                rcases hj1 : inB x 0 ((n.gates.length : Int) - 1)
                all_goals
                  have J1 := Lib.hid hj1
                  clear hj1
                  go_wp2_with fail
                  have hwrap : IntKind.i64.wrap ((n.gates.length : Int) - 1) = (n.gates.length : Int) - 1 := IntWalk.i64_in _ (by omega)
                  go_quiet ((go_at_call 64; exact quiet_w (rwithin_b x _ _ _ _ J1.out)))
                  clear hwrap
                  go_wp2_with fail
                · go_ret
                  exact ⟨ret_b (netB_no3 (all_no HFl.out (by unfold flowOkB; rw [show pathB n.gates.length f.path = false from range_no hlm (by unfold hopB; rw [HX.out, J1.out]; rfl)]; simp))).symm, (hE2.drewN _).old⟩
                · have HE2 := Lib.hid hE2
                  clear hE2
                  go_loopw [7] (fun i wy => ∃ j : Nat, j ≤ m ∧ i = .int .i64 j ∧ (∀ t, t < j → f.path.getD t 0 ≠ x) ∧ ∃ mq, wy = wx.drewN mq) (fun i _ => m - (intOf i).toNat)
                  case atStart => exact ⟨0, Nat.zero_le _, rfl, by omega, _, rfl⟩
                  case round =>
                    obtain ⟨j, hj, rfl, hne, mq, hwy⟩ := hrel
                    obtain ⟨wy, rfl⟩ : ∃ wy : World, wy = wr := ⟨_, rfl⟩
                    have HNE := Lib.hid hne
                    clear hne
                    have q2 : wy.cell? ⟨wo.heap.size, 2, none⟩ = some (.slice (some ⟨pb, po, none⟩) f.path.length cp) := by rw [hwy]; exact q2
                    have hp3 : IntsA wy w2.heap.size (some ⟨pb, po, none⟩) f.path := by rw [hwy]; exact hp2
                    have hpc : wy.cell? ⟨pb, po + m, none⟩ = some (.int .i64 x) := by rw [hwy]; exact hpc
                    have HWY := Lib.hid hwy
                    clear hwy
                    by_cases hlj : j < m
                    · obtain ⟨pb', po', he, _, hpj⟩ := hp3.at_ (k := j) (by omega)
                      injection he with he
                      injection he with he1 he2
                      subst he1
                      subst he2
                      generalize hy : f.path.getD j 0 = y at hpj
                      have HY := Lib.hid hy
                      clear hy
                      go_wp2_with fail
                      go_quiet (fail)
                      by_cases he : y = x
                      · subst he
                        go_wp2_with fail
                        go_ret
                        exact ⟨ret_b (netB_no3 (all_no HFl.out (by unfold flowOkB; rw [show pathB n.gates.length f.path = false from range_no hlm (hopB_no2 hlj hlm (by rw [HX.out, HY.out]))]; simp))).symm, by rw [HWY.out]; exact ((HE2.out.drewN _).drewN _).old⟩
                      · go_wp2_with fail
                        go_roundw
                        case rel => exact ⟨j + 1, by omega, by go_num, nat_snoc HNE.out (by rw [HY.out]; exact he), mq + nq, by rw [HWY.out, World.drewN_drewN]⟩
                        case measure => simp [intOf]; omega
                    · have hjm : j = m := by omega
                      subst hjm
                      go_wp2_with fail
                      go_roundw
                      case rel => exact ⟨j + 1, by omega, by go_num, nat_snoc HOPS.out (hopB_yes (by rw [HX.out]; exact J1.out) (by rw [HX.out]; exact HNE.out)), nq0 + mq, by rw [HWY.out, HWX.out, World.drewN_drewN]⟩
                      case measure => simp [intOf]; omega
              · have HP := Lib.hid (range_yes (p := hopB n.gates.length f.path) (n := f.path.length) fun j hj => HOPS.out j (by omega))
                clear HOPS
                go_wp2
                go_roundw
                case rel => exact ⟨k + 1, by omega, by go_num, upto_snoc HOK.out HFl.out (by unfold flowOkB; rw [H1.out, H2.out, show pathB n.gates.length f.path = true from HP.out]; rfl), hE2⟩
                case measure => simp [intOf]; omega
          all_goals
            go_ret
            exact ⟨ret_b (netB_no3 (all_no HFl.out (by unfold flowOkB; rw [H1.out, H2.out]; rfl))).symm, hE2.old⟩
        · have HA2 := Lib.hid (all_yes (p := flowOkB n.gates.length) (l := n.flows) fun j g hj hg => HOK.out j g (by omega) hg)
          clear HOK
          go_wp2
          go_ret
          exact ⟨ret_b (netB_yes hg30 hf40 HA.out HA2.out).symm, hE.old⟩
end Go.Proofs.Ytlbbhlkbhegegaa
