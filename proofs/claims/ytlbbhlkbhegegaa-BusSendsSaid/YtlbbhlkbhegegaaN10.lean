/- Walks: ignitionref04.Delays. -/
import Derived.Test.YtlbbhlkbhegegaaN8
import Derived.Test.YtlbbhlkbhegegaaDelM
import Derived.Test.YtlbbhlkbhegegaaTail
import Derived.Test.YtlbbhlkbhegegaaDelN
namespace Go.Proofs.Ytlbbhlkbhegegaa
open Go.RowKit

theorem rcheck_b (A1 A2 : Option Addr) (c1 c2 : Nat) (n : MNet) (r : Int) (w : World) (h : NetA w w.heap.size A1 A2 n) (hr : checkS n = r) :
    Calls Try.prog 18 #[.agg #[.slice A1 n.gates.length c1, .slice A2 n.flows.length c2]] w fun e w' => e = .returned (.int .i64 r) ∧ Below w.heap.size w w' := hr ▸ rcheck_any A1 A2 c1 c2 n w h
theorem rcheck_parts {n : MNet} (h : checkS n = 0) : netB n = true ∧ ∃ l, orderS n = some l := by
  rcases hv : netB n
  · rw [check_45 hv] at h; omega
  · rcases hs : orderS n with _ | l
    · rw [check_46 hv hs] at h; omega
    · exact ⟨rfl, l, rfl⟩
theorem rup_b (n b r : Int) (w : World) (h0 : 0 ≤ n) (h1 : n ≤ 1000000000000000) (h2 : 1 ≤ b) (h3 : b ≤ 1000000000000000) (hr : (n + b - 1) / b = r) :
    Calls Try.prog 62 #[.int .i64 n, .int .i64 b] w fun e w' => e = .returned (.int .i64 r) ∧ w = w' := hr ▸ rup_any n b w h0 h1 h2 h3

set_option maxRecDepth 100000 in
theorem rdelays_err (A1 A2 : Option Addr) (c1 c2 : Nat) (n : MNet) (w : World) (h : NetA w w.heap.size A1 A2 n) (res : List Int → Option ((Nat → Int) × (Nat → Int))) (hc : checkS n ≠ 0) :
    Calls Try.prog 20 #[.agg #[.slice A1 n.gates.length c1, .slice A2 n.flows.length c2]] w (DelPost n res w) := by
  have hE := NetEnv.make (c1 := c1) (c2 := c2) (t := 25) h
  clear h
  generalize hr : checkS n = r at hc
  have HR := Lib.hid hr
  clear hr
  have hc0 : (r == 0) = false := by simpa using hc
  have hc1 : (r != 0) = true := by simpa using hc
  go_enter Try.func20, Try.ntmps20
  go_wp2_with (go_at_call 18; refine (rcheck_b _ _ _ _ n _ _ (hE.net.more (Nat.le_of_lt hE.size)) HR.out).mono ?_; rintro e w2 ⟨rfl, hb2⟩)
  go_ret3
  exact ⟨(hE.below hb2 hE.size).old, .inl ⟨by rw [HR.out]; exact hc, by rw [HR.out]; rfl⟩⟩

set_option maxRecDepth 100000 in
set_option maxHeartbeats 8000000 in
theorem rdelays_any (A1 A2 : Option Addr) (c1 c2 : Nat) (n : MNet) (w : World) (h : NetA w w.heap.size A1 A2 n) (hc : checkS n = 0) :
    Calls Try.prog 20 #[.agg #[.slice A1 n.gates.length c1, .slice A2 n.flows.length c2]] w (DelPost n (fun l => delR n l (burst0 n) (fun _ => 0) (fun _ => 0)) w) := by
  have hE := NetEnv.make (c1 := c1) (c2 := c2) (t := 25) h
  clear h
  obtain ⟨hv, l, hl⟩ := rcheck_parts hc
  have HV := Lib.hid hv
  have HL := Lib.hid hl
  have HC := Lib.hid hc
  have hl1 := (netB_len hv).1
  have hl2 := (netB_len hv).2
  clear hv hl hc
  go_enter Try.func20, Try.ntmps20
  go_wp2_with (first
    | (go_at_call 18; refine (rcheck_b _ _ _ _ n _ _ (hE.net.more (Nat.le_of_lt hE.size)) HC.out).mono ?_; rintro e w2 ⟨rfl, hb2⟩; have hE2 := hE.below hb2 hE.size; have q0 := hE2.c0; have q1 := hE2.c1)
    | (at_make; refine mk_ints _ rfl _ _ rfl n.gates.length rfl rfl (by omega) ?_; intro w4 hW4 hb4; have hE4 := hE2.below hb4 hE2.size; have q41 := hE4.c1)
    | (at_make; refine mk_ints _ rfl _ _ rfl n.flows.length rfl rfl (by omega) ?_; intro w5 hD5 hb5; have hE5 := hE4.below hb5 hE4.size; have q51 := hE5.c1))
  have hgw := hE2.size
  have hgd := hW4.lt
  have hgb := hD5.lt
  have hW5 := hW4.below hb5 hgd
  clear hE hE2 hE4 hb2 hb4 hb5 q0 q1 q41 q51 hW4
  go_loopw [8, 9] (fun v i wr => ∃ m : Nat, m ≤ n.flows.length ∧ i = .int .i64 m ∧ OutI wr w5.heap.size v ((n.flows.take m).map (·.burst)) ∧ Below w5.heap.size w5 wr) (fun _ i _ => n.flows.length - (intOf i).toNat)
  case atStart => exact ⟨0, Nat.zero_le _, rfl, OutI.nil _ _, Below.refl _ _⟩
  case round =>
    obtain ⟨m, hm, rfl, hOut, hbw⟩ := hrel
    have hE := hE5.below hbw hE5.size
    have hsz := hbw.size
    have q0 := hE.c0
    have q1 := hE.c1
    obtain ⟨Ab, cb, rfl, hcb, _⟩ := hOut.lenV
    by_cases hlm : m < n.flows.length
    · obtain ⟨f, fb, foff, Ap, cp, hf, rfl, hfb, hfc0, hfc1, hfc2, hcp, hp⟩ := hE.net.2.2.2.at_ hlm
      have HFl := Lib.hid hf
      clear hf
      have hO2 : OutI (wr.alloc (.cells #[.int .i64 f.burst] 3)) w5.heap.size _ _ := World.ownsRow.alloc hOut _
      go_wp2_with (at_builtin; refine app_int _ rfl _ _ rfl w5.heap.size _ _ rfl hO2 wr.heap.size f.burst rfl (newcell' (by simp)) (by simp; omega) (by simp; omega) ?_; intro v' w6 hO6 hg6)
      all_goals
        go_roundw
        case rel =>
          refine ⟨m + 1, by omega, by go_num, ?_, hbw.trans (((Below.refl _ _).alloc (by omega) _).grown hg6 (by simp; omega) (fun g hg => (own_block_lt hO2 g hg).1))⟩
          rw [List.take_add_one, HFl.out]
          simpa using hO6
        case measure => simp [intOf]; omega
    · obtain rfl : m = n.flows.length := by omega
      rw [List.take_of_length_le (Nat.le_refl _)] at *
      have hlen : (n.flows.map (·.burst)).length = n.flows.length := by simp
      have hob : 0 < n.flows.length → ∃ g, Ab = some ⟨g, 0, none⟩ ∧ w5.heap.size ≤ g ∧ OwnF wr g 3 n.flows.length (fun j => .int .i64 (burst0 n j)) := fun h0 => by
        obtain ⟨g, e, hg, ho⟩ := hOut.ownF (by simpa using h0)
        rw [hlen] at ho
        exact ⟨g, e, hg, ho.congr fun j hj => by simp [burst0, flowAt, hj]⟩
      rw [hlen] at *
      have hW6 := hW5.below hbw (by omega)
      have hD6 := hD5.below hbw hgb
      have hszg : w5.heap.size ≤ wr.heap.size := hsz
      clear hE5 hOut hbw hD5 hW5 hsz
      go_wp2_with (go_at_call 58; refine (rorder_s _ _ _ _ n _ (hE.net.more (Nat.le_of_lt hE.size)) HV.out _ HL.out).mono ?_; rintro e w7 ⟨v, rfl, hb7, hO7⟩; have hE7 := hE.below hb7 hE.size)
      obtain ⟨Al, cl, rfl, hcl, _⟩ := hO7.lenV
      have hDS : DSR w w.heap.size A1 c1 A2 c2 n w2.heap.size w4.heap.size wr.heap.size Ab Al l (burst0 n) (fun _ => 0) (fun _ => 0) w7 := by
        refine ⟨hE7, hgw, hgd, by omega, hW6.below hb7 (by omega), hD6.below hb7 (by omega), fun h0 => ?_, fun h0 => ?_⟩
        · obtain ⟨g, e, hg, ho⟩ := hob h0
          exact ⟨g, e, by omega, ho.lt, ho.below hb7 ho.lt⟩
        · exact hO7.ownF h0
      clear hob hE hE7 hO7 hW6 hD6 hb7 q0 q1
      have HL1 := Lib.hid (order_len HL.out)
      have hll : l.length ≤ 30 := by rw [HL1.out]; exact hl1
      obtain ⟨wq, rfl⟩ : ∃ wq : World, wq = wr := ⟨_, rfl⟩
      go_loopw [12] (fun i wr' => ∃ (t : Nat) (B W D : Nat → Int), t ≤ l.length ∧ i = .int .i64 t ∧ Hid (delR n (l.drop t) B W D = delR n l (burst0 n) (fun _ => 0) (fun _ => 0)) ∧
        (∀ j, j < n.flows.length → 0 ≤ B j ∧ B j ≤ 500000000000000) ∧ (∀ j, 0 ≤ D j ∧ D j ≤ 50000000000 * t) ∧ DSR w w.heap.size A1 c1 A2 c2 n w2.heap.size w4.heap.size wq.heap.size Ab Al l B W D wr') (fun i _ => l.length - (intOf i).toNat)
      case atStart => exact ⟨0, _, _, _, Nat.zero_le _, rfl, rfl, fun j hj => by
        have := flow_rate HV.out (List.getElem?_eq_getElem hj)
        simp only [burst0, flowAt_of (List.getElem?_eq_getElem hj)]
        omega, by simp, hDS⟩
      case round =>
        clear hDS
        obtain ⟨t, B, W, D, ht, rfl, HI, hB, hD, hDS⟩ := hrel
        by_cases htl : t < l.length
        · obtain ⟨lb, rfl, hlb, hOL⟩ := hDS.ol (by omega)
          have hlc := hOL.cell htl
          obtain ⟨k, hk, hkG⟩ := order_at HL.out htl
          have HDR : Hid (l.drop t = (k : Int) :: l.drop (t + 1)) := by show _ = _; rw [drop_at htl, hk]
          rw [hk] at hlc
          clear hk hOL
          have q0 := hDS.env.c0
          have q1 := hDS.env.c1
          go_wp2_with fail
          go_loop [14, 15] (fun s i => ∃ m : Nat, m ≤ n.flows.length ∧ i = .int .i64 m ∧ s = .int .i64 (sumTo n B k m) ∧ (∀ j, j < m → overB n B k j = false)) (fun _ i => n.flows.length - (intOf i).toNat)
          case atStart => exact ⟨0, Nat.zero_le _, rfl, rfl, by omega⟩
          case round =>
            obtain ⟨m, hm, rfl, rfl, hov⟩ := hrel
            have hsb := sumTo_bd2 (n := n) (B := B) (g := (k : Int)) (M := 1000000000) (by omega) m (fun i hi ht => ⟨(hB i (by omega)).1, overB_le (hov i hi) ht⟩)
            have HOV := Lib.hid hov
            clear hov
            by_cases hlm : m < n.flows.length
            · obtain ⟨f, fb, foff, Ap, cp, hf, rfl, hfb, hfc0, hfc1, hfc2, hcp, hp⟩ := hDS.env.net.2.2.2.at_ hlm
              obtain ⟨gb, rfl, hgb2, hgb3, hOB⟩ := hDS.ob (by omega)
              have qb := hOB.cell hlm
              have hBm := hB m hlm
              have HS : Hid (sumTo n B k (m + 1) = sumTo n B k m + if hasI f.path k = true then B m else 0) := by show _ = _; rw [sumTo, thru, flowAt_of hf]
              have HTH : Hid (overB n B k m = (hasI f.path k && decide (1000000000 < B m))) := by show _ = _; rw [overB, thru, flowAt_of hf]
              clear hf
              generalize sumTo n B k m = S at *
              generalize B m = bm at *
              rcases hh : hasI f.path (k : Int)
              · have HH := Lib.hid hh
                clear hh
                go_wp2_with (go_at_call 59; refine (has_b _ _ _ f.path (k : Int) _ _ _ hp rfl HH.out).mono ?_; rintro e w' ⟨rfl, rfl⟩)
                go_round
                case rel => exact ⟨m + 1, by omega, by go_num, int_c (by rw [HS.out, HH.out]; simp), nat_snoc HOV.out (by rw [HTH.out, HH.out]; rfl)⟩
                case measure => simp [intOf]; omega
              · have HH := Lib.hid hh
                clear hh
                by_cases hbig : 1000000000 < bm
                · go_wp2_with (go_at_call 59; refine (has_b _ _ _ f.path (k : Int) _ _ _ hp rfl HH.out).mono ?_; rintro e w' ⟨rfl, rfl⟩)
                  go_ret3
                  exact del_none hDS.env.old HC.out HL.out (by rw [← HI.out, HDR.out, delR_over hlm (by rw [HTH.out, HH.out, decide_eq_true hbig]; rfl)])
                · go_wp2_with (go_at_call 59; refine (has_b _ _ _ f.path (k : Int) _ _ _ hp rfl HH.out).mono ?_; rintro e w' ⟨rfl, rfl⟩)
                  go_round
                  case rel => exact ⟨m + 1, by omega, by go_num, int_c (by rw [HS.out, HH.out]; simp), nat_snoc HOV.out (by rw [HTH.out, HH.out, decide_eq_false (p := (1000000000 : Int) < bm) (by omega)]; rfl)⟩
                  case measure => simp [intOf]; omega
            · obtain rfl : m = n.flows.length := by omega
              by_cases h0 : sumTo n B k n.flows.length = 0
              · have H0 := Lib.hid h0
                rw [h0]
                clear hsb h0
                go_wp2_with fail
                go_roundw
                case rel => exact ⟨t + 1, B, W, D, by omega, by go_num, by show _ = _; rw [← HI.out, HDR.out, delR_zero HOV.out H0.out], hB, fun j => by have := hD j; omega, hDS⟩
                case measure => simp [intOf]; omega
              · obtain ⟨x, gb0, goff, hx, rfl, hgb0, hx0, hx1⟩ := hDS.env.net.2.2.1.at_ hkG
                have hxr := netB_gate HV.out hx
                have hwt := wait_bd HV.out hx (fun i hi ht => ⟨(hB i hi).1, overB_le (HOV.out i hi) ht⟩) h0
                have HWT : Hid (waitOf n B k = (sumTo n B k n.flows.length + x.rate - 1) / x.rate - 1) := by show _ = _; unfold waitOf; rw [gateAt_of hx]
                have HX := Lib.hid hx
                have H0 : Hid (sumTo n B k n.flows.length ≠ 0) := h0
                have h1 : 1 ≤ sumTo n B k n.flows.length := by omega
                have h0b : (sumTo n B k n.flows.length == 0) = false := by simpa using h0
                have qw := hDS.ow.cell hkG
                have qwf := hDS.ow.frozen k
                clear hx h0
                generalize hS : sumTo n B k n.flows.length = S at *
                have HS := Lib.hid hS
                clear hS
                generalize hr : (S + x.rate - 1) / x.rate = r at *
                have HRr := Lib.hid hr
                have HWV : Hid (waitOf n B k = r - 1) := by show _ = _; rw [HWT.out]
                rw [HWV.out] at hwt
                clear hr
                have hDS2 := hDS.setW k (r - 1) (W' := setW W k (r - 1)) (fun i => by simp [setW])
                have q1b := hDS2.env.c1
                go_wp2_with (go_at_call 62; refine (rup_b _ _ r _ (by omega) (by omega) (by omega) (by omega) HRr.out).mono ?_; rintro e w' ⟨rfl, rfl⟩)
                generalize hW : wr.setCell ⟨w2.heap.size, k, none⟩ (.int .i64 (r - 1)) = w6 at *
                generalize hwt0 : r - 1 = wt at *
                clear hW hDS qw qwf hwt0 hx0 hx1 q0 q1 q1b hlc
                go_loopw [16] (fun i wr => ∃ m : Nat, m ≤ n.flows.length ∧ i = .int .i64 m ∧
                  DSR w w.heap.size (some ⟨gb0, goff, none⟩) c1 A2 c2 n w2.heap.size w4.heap.size wq.heap.size Ab (some ⟨lb, 0, none⟩) l (fun j => if j < m then burstR n B k wt j else B j) (setW W k wt) (fun j => if j < m then delayD n D k wt j else D j) wr) (fun i _ => n.flows.length - (intOf i).toNat)
                case atStart => exact ⟨0, Nat.zero_le _, rfl, hDS2.congr (fun j _ => by simp) (fun j _ => by simp)⟩
                case round =>
                  clear hDS2
                  obtain ⟨m, hm, rfl, hDS⟩ := hrel
                  have q0 := hDS.env.c0
                  have q1 := hDS.env.c1
                  by_cases hlm : m < n.flows.length
                  · obtain ⟨f, fb, foff, Ap, cp, hf, rfl, hfb, hfc0, hfc1, hfc2, hcp, hp⟩ := hDS.env.net.2.2.2.at_ hlm
                    have hpl := hp.1
                    unfold maxLen at hpl
                    obtain ⟨gb, rfl, hgb2, hgb3, hOB⟩ := hDS.ob (by omega)
                    have hfr := flow_rate HV.out hf
                    have hmul := mul_bd hfr.2.1 hfr.2.2 hwt.1 hwt.2
                    have HFA := Lib.hid (flowAt_of hf)
                    have HTHd : Hid (thru n k m = hasI f.path k) := by show _ = _; unfold thru; rw [HFA.out]
                    clear hf hfc0
                    rcases hh : hasI f.path (k : Int)
                    · have HH := Lib.hid hh
                      clear hh
                      have HT : Hid (thru n k m = false) := by show _ = _; rw [HTHd.out]; exact HH.out
                      go_wp2_with (go_at_call 59; refine (has_b _ _ _ f.path (k : Int) _ _ _ hp rfl HH.out).mono ?_; rintro e w' ⟨rfl, rfl⟩)
                      go_roundw
                      case rel => exact ⟨m + 1, by omega, by go_num, hDS.congr (fun j _ => step_same (by unfold burstR; rw [HT.out]; rfl) j) (fun j _ => step_same (by unfold delayD; rw [HT.out]; rfl) j)⟩
                      case measure => simp [intOf]; omega
                    · have HH := Lib.hid hh
                      clear hh
                      have HT : Hid (thru n k m = true) := by show _ = _; rw [HTHd.out]; exact HH.out
                      have hBm : 0 ≤ B m ∧ B m ≤ 1000000000 := ⟨(hB m hlm).1, overB_le (HOV.out m hlm) HT.out⟩
                      have hDm := hD m
                      have HDD : Hid (delayD n D k wt m = D m + (x.delay + wt)) := by show _ = _; unfold delayD; rw [HT.out, gateAt_of HX.out]; rfl
                      have HBB : Hid (burstR n B k wt m = B m + f.rate * wt) := by show _ = _; unfold burstR; rw [HT.out, HFA.out]; rfl
                      have qb : wr.cell? ⟨gb, m, none⟩ = some (.int .i64 (B m)) := by have := hOB.cell hlm; simpa using this
                      have qbf := hOB.frozen m
                      have qw : wr.cell? ⟨w2.heap.size, k, none⟩ = some (.int .i64 wt) := by have := hDS.ow.cell hkG; simpa [setW] using this
                      go_wp2_with (go_at_call 59; refine (has_b _ _ _ f.path (k : Int) _ _ _ hp rfl HH.out).mono ?_; rintro e w' ⟨rfl, rfl⟩)
                      clear hB hD hp hOB hfc2 hsb
                      have e1 : IntKind.i64.wrap (f.rate * wt) = f.rate * wt := IntWalk.i64_in _ (by omega)
                      have e2 : IntKind.i64.wrap (B m + f.rate * wt) = B m + f.rate * wt := IntWalk.i64_in _ (by omega)
                      refine wp_region_quiet_tail 17 (by kernel_rfl) (by kernel_rfl) ?_
                      simp only [List.take_succ_cons, List.take_zero, List.drop_succ_cons, List.drop_zero]
                      repeat (go_big_quiet_step (fail))
                      refine wpQuiet_nil ?_
                      clear e1 e2
                      generalize hbv : B m + f.rate * wt = bv at *
                      have hDS8 := (hDS.setB (by omega) m bv (fun _ => rfl)).drew
                      go_wp2_with fail
                      generalize hW8 : (wr.setCell ⟨gb, m, none⟩ (.int .i64 bv)).drew = w8 at *
                      clear hW8 hDS qb qbf qw q0 q1 hfc1
                      have q0 := hDS8.env.c0
                      obtain ⟨x', b', off', hx', he', _, _, hx1'⟩ := hDS8.env.net.2.2.1.at_ hkG
                      rw [HX.out] at hx'
                      injection hx' with hx'
                      injection he' with he'
                      injection he' with he1 he2
                      subst hx'
                      subst he1
                      subst he2
                      have qw : w8.cell? ⟨w2.heap.size, k, none⟩ = some (.int .i64 wt) := by have := hDS8.ow.cell hkG; simpa [setW] using this
                      have qd : w8.cell? ⟨w4.heap.size, m, none⟩ = some (.int .i64 (D m)) := by have := hDS8.od.cell hlm; simpa using this
                      have qdf := hDS8.od.frozen m
                      have e1 : IntKind.i64.wrap (x.delay + wt) = x.delay + wt := IntWalk.i64_in _ (by omega)
                      have e2 : IntKind.i64.wrap (D m + (x.delay + wt)) = D m + (x.delay + wt) := IntWalk.i64_in _ (by omega)
                      refine wp_region_quiet_tail 17 (by kernel_rfl) (by kernel_rfl) ?_
                      simp only [List.take_succ_cons, List.take_zero, List.drop_succ_cons, List.drop_zero]
                      repeat (go_big_quiet_step (fail))
                      refine wpQuiet_nil ?_
                      clear e1 e2
                      generalize hdv : D m + (x.delay + wt) = dv at *
                      have hDS9 := (hDS8.setD m dv (fun _ => rfl)).drew
                      go_wp2_with fail
                      go_roundw
                      case rel => exact ⟨m + 1, by omega, by go_num, hDS9.congr (fun j _ => step_upd HBB.out j) (fun j _ => step_upd HDD.out j)⟩
                      case measure => simp [intOf]; omega
                  · obtain rfl : m = n.flows.length := by omega
                    have HBO := Lib.hid (burstR_ok HV.out hB hwt HOV.out)
                    have HDO := Lib.hid (delay_ok HV.out HX.out hwt hD)
                    have hDSe := hDS.congr (fun j hj => all_upd j hj) (fun j hj => all_upd j hj)
                    clear hB hD
                    go_wp2_with fail
                    go_roundw
                    case rel => exact ⟨t + 1, burstR n B k wt, setW W k wt, delayD n D k wt, by omega, by go_num, by show _ = _; rw [← HI.out, HDR.out, delR_step HOV.out (by rw [HS.out]; exact H0.out), HWV.out], HBO.out, HDO.out, hDSe⟩
                    case measure => simp [intOf]; omega
        · obtain rfl : t = l.length := by omega
          have HRES : Hid (delR n l (burst0 n) (fun _ => 0) (fun _ => 0) = some (W, D)) := by show _ = _; rw [← HI.out, List.drop_length]; rfl
          go_wp2_with fail
          go_ret3
          exact del_some hDS.env.old HC.out HL.out HRES.out (by omega) (by omega) hDS.ow hDS.od
end Go.Proofs.Ytlbbhlkbhegegaa
