/- Walks: bus.Delays. -/
import Derived.Test.YtlbbhlkbhegegaaNm
import Derived.Test.YtlbbhlkbhegegaaDelM
import Derived.Test.YtlbbhlkbhegegaaTail
import Derived.Test.YtlbbhlkbhegegaaDel2
namespace Go.Proofs.Ytlbbhlkbhegegaa
open Go.RowKit

theorem check_b (A1 A2 : Option Addr) (c1 c2 : Nat) (n : MNet) (r : Int) (w : World) (h : NetA w w.heap.size A1 A2 n) (hr : checkS n = r) :
    Calls Try.prog 17 #[.agg #[.slice A1 n.gates.length c1, .slice A2 n.flows.length c2]] w fun e w' => e = .returned (.int .i64 r) ∧ Below w.heap.size w w' := hr ▸ check_any A1 A2 c1 c2 n w h
theorem check_parts {n : MNet} (h : checkS n = 0) : netB n = true ∧ ∃ l, orderS n = some l := by
  rcases hv : netB n
  · rw [check_45 hv] at h; omega
  · rcases hs : orderS n with _ | l
    · rw [check_46 hv hs] at h; omega
    · exact ⟨rfl, l, rfl⟩
theorem up_b (n b r : Int) (w : World) (h0 : 0 ≤ n) (h1 : n ≤ 1000000000000000) (h2 : 1 ≤ b) (h3 : b ≤ 1000000000000000) (hr : (n + b - 1) / b = r) :
    Calls Try.prog 60 #[.int .i64 n, .int .i64 b] w fun e w' => e = .returned (.int .i64 r) ∧ w = w' := hr ▸ up_any n b w h0 h1 h2 h3
theorem ret_3 {a b c : Value} {x y : Value} {z : Int} (h1 : a = x) (h2 : b = y) (h3 : c = .int .i64 z) : Ending.returned (.tuple #[a, b, c]) = .returned (.tuple #[x, y, .int .i64 z]) := by rw [h1, h2, h3]

theorem delays_err (A1 A2 : Option Addr) (c1 c2 : Nat) (n : MNet) (w : World) (h : NetA w w.heap.size A1 A2 n) (res : List Int → Option ((Nat → Int) × (Nat → Int))) (hc : checkS n ≠ 0) :
    Calls Try.prog 19 #[.agg #[.slice A1 n.gates.length c1, .slice A2 n.flows.length c2]] w (DelPost n res w) := by
  have hE := NetEnv.make (c1 := c1) (c2 := c2) (t := 25) h
  clear h
  generalize hr : checkS n = r at hc
  have HR := Lib.hid hr
  clear hr
  have hc0 : (r == 0) = false := by simpa using hc
  have hc1 : (r != 0) = true := by simpa using hc
  go_enter Try.func19, Try.ntmps19
  go_wp2_with (go_at_call 17; refine (check_b _ _ _ _ n _ _ (hE.net.more (Nat.le_of_lt hE.size)) HR.out).mono ?_; rintro e w2 ⟨rfl, hb2⟩)
  go_ret3
  exact ⟨(hE.below hb2 hE.size).old, .inl ⟨by rw [HR.out]; exact hc, by rw [HR.out]; rfl⟩⟩

set_option maxRecDepth 100000 in
set_option maxHeartbeats 2000000 in
theorem delays_any (A1 A2 : Option Addr) (c1 c2 : Nat) (n : MNet) (w : World) (h : NetA w w.heap.size A1 A2 n) (hc : checkS n = 0) :
    Calls Try.prog 19 #[.agg #[.slice A1 n.gates.length c1, .slice A2 n.flows.length c2]] w (DelPost n (fun l => delI n l (burst0 n) (fun _ => 0) (fun _ => 0)) w) := by
  have hE := NetEnv.make (c1 := c1) (c2 := c2) (t := 25) h
  clear h
  obtain ⟨hv, l, hl⟩ := check_parts hc
  have HV := Lib.hid hv
  have HL := Lib.hid hl
  have HC := Lib.hid hc
  have hl1 := (netB_len hv).1
  have hl2 := (netB_len hv).2
  clear hv hl hc
  go_enter Try.func19, Try.ntmps19
  go_wp2_with (first
    | (go_at_call 17; refine (check_b _ _ _ _ n _ _ (hE.net.more (Nat.le_of_lt hE.size)) HC.out).mono ?_; rintro e w2 ⟨rfl, hb2⟩; have hE2 := hE.below hb2 hE.size; have q0 := hE2.c0; have q1 := hE2.c1)
    | (go_at_call 55; refine (order_s _ _ _ _ n _ (hE2.net.more (Nat.le_of_lt hE2.size)) HV.out _ HL.out).mono ?_; rintro e w3 ⟨v, rfl, hb3, hO3⟩; have hE3 := hE2.below hb3 hE2.size; have q30 := hE3.c0)
    | (at_make; refine mk_ints _ rfl _ _ rfl n.gates.length rfl rfl (by omega) ?_; intro w4 hW4 hb4; have hE4 := hE3.below hb4 hE3.size; have q41 := hE4.c1)
    | (at_make; refine mk_ints _ rfl _ _ rfl n.flows.length rfl rfl (by omega) ?_; intro w5 hD5 hb5; have hE5 := hE4.below hb5 hE4.size; have q51 := hE5.c1))
  obtain ⟨Al, cl, rfl, hcl, hil⟩ := hO3.reads
  have hgw := hE3.size
  have hgd := hW4.lt
  have hgb := hD5.lt
  have hil5 := (hil.below hb4 (Nat.le_refl _)).below (hb5.mono (B' := w3.heap.size) (by omega)) (Nat.le_refl _)
  have hW5 := hW4.below hb5 hgd
  clear hE hE2 hE3 hE4 hb2 hb3 hb4 hb5 hO3 hil q0 q1 q30 q41 q51 hW4
  go_loopw [8, 40] (fun v i wr => ∃ m : Nat, m ≤ n.flows.length ∧ i = .int .i64 m ∧ OutI wr w5.heap.size v ((n.flows.take m).map (·.burst)) ∧ Below w5.heap.size w5 wr) (fun _ i _ => n.flows.length - (intOf i).toNat)
  case atStart => exact ⟨0, Nat.zero_le _, rfl, OutI.nil _ _, Below.refl _ _⟩
  case round =>
    obtain ⟨m, hm, rfl, hOut, hbw⟩ := hrel
    have hE := hE5.below hbw hE5.size
    have hsz := hbw.size
    obtain ⟨Ab, cb, rfl, hcb, _⟩ := hOut.lenV
    by_cases hlm : m < n.flows.length
    · obtain ⟨f, fb, foff, Ap, cp, hf, rfl, hfb, hfc0, hfc1, hfc2, hcp, hp⟩ := hE.net.2.2.2.at_ hlm
      have HFl := Lib.hid hf
      clear hf
      have hO2 : OutI ((wr.alloc (.cells #[.int .i64 f.burst, .int .i64 f.rate, .slice Ap f.path.length cp] 47)).alloc (.cells #[.int .i64 f.burst] 3)) w5.heap.size _ _ := World.ownsRow.alloc (World.ownsRow.alloc hOut _) _
      go_wp2_with (at_builtin; refine app_int _ rfl _ _ rfl w5.heap.size _ _ rfl hO2 (wr.heap.size + 1) f.burst rfl (newcell' (by simp)) (by simp; omega) (by simp; omega) ?_; intro v' w6 hO6 hg6)
      all_goals
        go_roundw
        case rel =>
          refine ⟨m + 1, by omega, by go_num, ?_, hbw.trans ((((Below.refl _ _).alloc (by omega) _).alloc (by simp; omega) _).grown hg6 (by simp; omega) (fun g hg => (own_block_lt hO2 g hg).1))⟩
          rw [List.take_add_one, HFl.out]
          simpa using hO6
        case measure => simp [intOf]; omega
    · obtain rfl : m = n.flows.length := by omega
      rw [List.take_of_length_le (Nat.le_refl _)] at *
      have hlen : (n.flows.map (·.burst)).length = n.flows.length := by simp
      have hob : 0 < n.flows.length → ∃ g, Ab = some ⟨g, 0, none⟩ ∧ w5.heap.size ≤ g ∧ OwnF wr g 3 n.flows.length (fun j => .int .i64 (burst0 n j)) := fun h0 => by
        obtain ⟨g, e, hg, ho⟩ := hOut.ownF (by simpa using h0)
        rw [hlen] at ho
        exact ⟨g, e, hg, ho.congr fun j hj => by simp [burst0, flowAt, hj]⟩
      rw [hlen] at *
      have hDS : DS w w.heap.size A1 c1 A2 c2 n w3.heap.size w4.heap.size Ab Al l (burst0 n) (fun _ => 0) (fun _ => 0) wr := by
        refine ⟨hE, hgw, hgd, hW5.below hbw (by omega), hD5.below hbw hgb, fun h0 => ?_, hil5.below (hbw.mono (B' := w3.heap.size) (by omega)) (Nat.le_refl _)⟩
        obtain ⟨g, e, hg, ho⟩ := hob h0
        exact ⟨g, e, by omega, ho⟩
      clear hob hE hE5 hOut hbw hD5 hW5 hil5
      have HL1 := Lib.hid (order_len HL.out)
      have hll : l.length ≤ 30 := by rw [HL1.out]; exact hl1
      go_wp2_with fail
      go_loopw [2, 3, 52] (fun v2 v3 i wr => v2 = .slice (some ⟨w3.heap.size, 0, none⟩) n.gates.length n.gates.length ∧ v3 = .slice (some ⟨w4.heap.size, 0, none⟩) n.flows.length n.flows.length ∧ ∃ (t : Nat) (B W D : Nat → Int), t ≤ l.length ∧ i = .int .i64 t ∧ Hid (delI n (l.drop t) B W D = delI n l (burst0 n) (fun _ => 0) (fun _ => 0)) ∧
        (∀ j, j < n.flows.length → 0 ≤ B j ∧ B j ≤ 1000000000) ∧ (∀ j, 0 ≤ D j ∧ D j ≤ 50000000000 * t) ∧ DS w w.heap.size A1 c1 A2 c2 n w3.heap.size w4.heap.size Ab Al l B W D wr) (fun _ _ i _ => l.length - (intOf i).toNat)
      case atStart => exact ⟨rfl, rfl, 0, _, _, _, Nat.zero_le _, rfl, rfl, fun j hj => by
        have := flow_rate HV.out (List.getElem?_eq_getElem hj)
        simp only [burst0, flowAt_of (List.getElem?_eq_getElem hj)]
        omega, by simp, hDS⟩
      case round =>
        clear hDS hsz
        obtain ⟨rfl, rfl, t, B, W, D, ht, rfl, HI, hB, hD, hDS⟩ := hrel
        obtain ⟨wo, rfl⟩ : ∃ wo : World, wo = wr := ⟨_, rfl⟩
        by_cases htl : t < l.length
        · obtain ⟨lb, lo, rfl, hlb, hlc⟩ := hDS.il.at_ htl
          obtain ⟨k, hk, hkG⟩ := order_at HL.out htl
          have HDR : Hid (l.drop t = (k : Int) :: l.drop (t + 1)) := by show _ = _; rw [drop_at htl, hk]
          rw [hk] at hlc
          clear hk
          have q1 := hDS.env.c1
          have hszo := hDS.env.size
          go_wp2_with fail
          go_loopw [13, 59] (fun s i wy => ∃ m : Nat, m ≤ n.flows.length ∧ i = .int .i64 m ∧ s = .int .i64 (sumTo n B k m) ∧ Below wo.heap.size wo wy) (fun _ i _ => n.flows.length - (intOf i).toNat)
          case atStart => exact ⟨0, Nat.zero_le _, rfl, rfl, Below.refl _ _⟩
          case round =>
            obtain ⟨m, hm, rfl, rfl, hbw⟩ := hrel
            have hsb := sumTo_bd (n := n) (B := B) (g := (k : Int)) (M := 1000000000) (fun i hi _ => hB i hi) (by omega) m hm
            have hDS := hDS.below hbw
            have hszr := hbw.size
            have hsz := hDS.env.size
            by_cases hlm : m < n.flows.length
            · obtain ⟨f, fb, foff, Ap, cp, hf, rfl, hfb, hfc0, hfc1, hfc2, hcp, hp⟩ := hDS.env.net.2.2.2.at_ hlm
              obtain ⟨gb, rfl, hgb2, hOB⟩ := hDS.ob (by omega)
              have qb := hOB.cell hlm
              have hgbl := hOB.lt
              have hBm := hB m hlm
              have HS : Hid (sumTo n B k (m + 1) = sumTo n B k m + if hasI f.path k = true then B m else 0) := by show _ = _; rw [sumTo, thru, flowAt_of hf]
              clear hf
              generalize sumTo n B k m = S at *
              generalize B m = bm at *
              have hp1 := hp.alloc (B' := w.heap.size) (by omega) (.cells #[.int .i64 f.burst, .int .i64 f.rate, .slice Ap f.path.length cp] 47) (Nat.le_refl _)
              rcases hh : hasI f.path (k : Int)
              all_goals
                have HH := Lib.hid hh
                clear hh
                go_wp2_with (go_at_call 56; refine (contains_b _ _ _ f.path (k : Int) _ _ _ hp1 rfl HH.out).mono ?_; rintro e w' ⟨rfl, rfl⟩)
                go_roundw
                case rel => exact ⟨m + 1, by omega, by go_num, int_c (by rw [HS.out, HH.out]; simp), hbw.trans ((Below.refl _ _).alloc hszr _)⟩
                case measure => simp [intOf]; omega
            · obtain rfl : m = n.flows.length := by omega
              by_cases h0 : sumTo n B k n.flows.length = 0
              · have H0 := Lib.hid h0
                rw [h0]
                clear hsb h0
                go_wp2_with fail
                go_roundw
                case rel => exact ⟨rfl, rfl, t + 1, B, W, D, by omega, by go_num, by show _ = _; rw [← HI.out, HDR.out, delI_zero H0.out], hB, fun j => by have := hD j; omega, hDS⟩
                case measure => simp [intOf]; omega
              · obtain ⟨x, gb0, goff, hx, rfl, hgb0, hx0, hx1⟩ := hDS.env.net.2.2.1.at_ hkG
                have hxr := netB_gate HV.out hx
                have hwt := wait_bd HV.out hx (fun i hi _ => hB i hi) h0
                have HWT : Hid (waitOf n B k = (sumTo n B k n.flows.length + x.rate - 1) / x.rate - 1) := by show _ = _; unfold waitOf; rw [gateAt_of hx]
                have HX := Lib.hid hx
                have H0 : Hid (sumTo n B k n.flows.length ≠ 0) := h0
                have h1 : 1 ≤ sumTo n B k n.flows.length := by omega
                have h0b : (sumTo n B k n.flows.length == 0) = false := by simpa using h0
                have qw := hDS.ow.cell hkG
                have qwf := hDS.ow.frozen k
                have q0 := hDS.env.c0
                have q1 := hDS.env.c1
                clear hx h0 q1
                generalize hS : sumTo n B k n.flows.length = S at *
                have HS := Lib.hid hS
                clear hS
                generalize hr : (S + x.rate - 1) / x.rate = r at *
                have HRr := Lib.hid hr
                have HWV : Hid (waitOf n B k = r - 1) := by show _ = _; rw [HWT.out]
                rw [HWV.out] at hwt
                clear hr
                have hDS2 := hDS.setW k (r - 1) (W' := setW W k (r - 1)) (fun i => by simp [setW])
                have q1 := hDS2.env.c1
                go_wp2_with (go_at_call 60; refine (up_b _ _ r _ (by omega) (by omega) (by omega) (by omega) HRr.out).mono ?_; rintro e w' ⟨rfl, rfl⟩)
                generalize hW : wr.setCell ⟨w3.heap.size, k, none⟩ (.int .i64 (r - 1)) = w6 at *
                generalize hwt0 : r - 1 = wt at *
                clear hW hDS qw qwf hwt0
                go_loopw [2, 3, 92] (fun v2 v3 i wr => v2 = .slice (some ⟨w3.heap.size, 0, none⟩) n.gates.length n.gates.length ∧ v3 = .slice (some ⟨w4.heap.size, 0, none⟩) n.flows.length n.flows.length ∧ ∃ m : Nat, m ≤ n.flows.length ∧ i = .int .i64 m ∧ (∀ j, j < m → overB n (burstI n B k wt) k j = false) ∧
                  DS w w.heap.size (some ⟨gb0, goff, none⟩) c1 A2 c2 n w3.heap.size w4.heap.size Ab (some ⟨lb, lo, none⟩) l (fun j => if j < m then burstI n B k wt j else B j) (setW W k wt) (fun j => if j < m then delayD n D k wt j else D j) wr) (fun _ _ i _ => n.flows.length - (intOf i).toNat)
                case atStart => exact ⟨rfl, rfl, 0, Nat.zero_le _, rfl, by omega, hDS2.congr (fun j _ => by simp) (fun j _ => by simp)⟩
                case round =>
                  clear hDS2
                  obtain ⟨rfl, rfl, m, hm, rfl, hov, hDS⟩ := hrel
                  have HOV := Lib.hid hov
                  clear hov
                  have hsz := hDS.env.size
                  by_cases hlm : m < n.flows.length
                  · obtain ⟨f, fb, foff, Ap, cp, hf, rfl, hfb, hfc0, hfc1, hfc2, hcp, hp⟩ := hDS.env.net.2.2.2.at_ hlm
                    have hpl := hp.1
                    unfold maxLen at hpl
                    obtain ⟨gb, rfl, hgb2, hOB⟩ := hDS.ob (by omega)
                    have hBm := hB m hlm
                    have hDm := hD m
                    have hfr := flow_rate HV.out hf
                    have hmul := mul_bd hfr.2.1 hfr.2.2 hwt.1 hwt.2
                    have HFA := Lib.hid (flowAt_of hf)
                    clear hf
                    have qb : wr.cell? ⟨gb, m, none⟩ = some (.int .i64 (B m)) := by have := hOB.cell hlm; simpa using this
                    have qd : wr.cell? ⟨w4.heap.size, m, none⟩ = some (.int .i64 (D m)) := by have := hDS.od.cell hlm; simpa using this
                    have qw : wr.cell? ⟨w3.heap.size, k, none⟩ = some (.int .i64 wt) := by have := hDS.ow.cell hkG; simpa [setW] using this
                    have qdf := hDS.od.frozen m
                    have qbf := hOB.frozen m
                    have hp1 := hp.alloc (B' := w.heap.size) (by omega) (.cells #[.int .i64 f.burst, .int .i64 f.rate, .slice Ap f.path.length cp] 47) (Nat.le_refl _)
                    rcases idxI_cases f.path (k : Int) with ⟨hi, hne⟩ | ⟨q, hi, hq, _, _⟩
                    · have HIX := Lib.hid hi
                      clear hi hne
                      go_wp2_with (go_at_call 61; refine (index_b _ _ _ f.path (k : Int) (-1) _ _ hp1 rfl HIX.out).mono ?_; rintro e w' ⟨rfl, rfl⟩)
                      have hthru : thru n k m = false := by unfold thru; rw [HFA.out]; exact hasI_of_miss HIX.out
                      go_roundw
                      case rel => exact ⟨rfl, rfl, m + 1, by omega, by go_num, nat_snoc HOV.out (by unfold overB; rw [hthru]; rfl),
                        (hDS.alloc _).congr (fun j _ => step_same (by unfold burstI; rw [moreI_miss (by rw [HFA.out]; exact HIX.out)]; rfl) j) (fun j _ => step_same (by unfold delayD; rw [hthru]; rfl) j)⟩
                      case measure => simp [intOf]; omega
                    · have HIX := Lib.hid hi
                      clear hi
                      have hthru : thru n k m = true := by unfold thru; rw [HFA.out]; exact hasI_of_idx HIX.out
                      have HTH := Lib.hid hthru
                      have HDD : Hid (delayD n D k wt m = D m + (x.delay + wt)) := by show _ = _; unfold delayD; rw [hthru, gateAt_of HX.out]; rfl
                      have HMI : Hid (moreI n k m = decide (q + 1 < f.path.length)) := by show _ = _; rw [moreI_at (q := q) (by rw [HFA.out]; exact HIX.out), HFA.out]
                      clear hthru
                      have hwrs : w4.heap.size < wr.heap.size := hDS.od.lt
                      have hgws : w3.heap.size < wr.heap.size := hDS.ow.lt
                      have hgbs : gb < wr.heap.size := hOB.lt
                      go_wp2_with (go_at_call 61; refine (index_b _ _ _ f.path (k : Int) (q : Int) _ _ hp1 rfl HIX.out).mono ?_; rintro e w' ⟨rfl, rfl⟩)
                      have n1 := newcell wr #[.int .i64 f.burst, .int .i64 f.rate, .slice Ap f.path.length cp] 47 1
                      have n2 := newcell wr #[.int .i64 f.burst, .int .i64 f.rate, .slice Ap f.path.length cp] 47 2
                      simp only [List.getElem?_toArray, List.getElem?_cons_succ, List.getElem?_cons_zero] at n1 n2
                      have hDS7 := hDS.alloc (.cells #[.int .i64 f.burst, .int .i64 f.rate, .slice Ap f.path.length cp] 47)
                      have r0 := hDS7.env.c0
                      obtain ⟨x', b', off', hx', he', _, _, hx1'⟩ := hDS7.env.net.2.2.1.at_ hkG
                      rw [HX.out] at hx'
                      injection hx' with hx'
                      injection he' with he'
                      injection he' with he1 he2
                      subst hx'
                      subst he1
                      subst he2
                      have r1 : (wr.alloc (.cells #[.int .i64 f.burst, .int .i64 f.rate, .slice Ap f.path.length cp] 47)).cell? ⟨w3.heap.size, k, none⟩ = some (.int .i64 wt) := by have := hDS7.ow.cell hkG; simpa [setW] using this
                      have r2 : (wr.alloc (.cells #[.int .i64 f.burst, .int .i64 f.rate, .slice Ap f.path.length cp] 47)).cell? ⟨w4.heap.size, m, none⟩ = some (.int .i64 (D m)) := by have := hDS7.od.cell hlm; simpa using this
                      have r3 := hDS7.od.frozen m
                      generalize hW7 : wr.alloc (.cells #[.int .i64 f.burst, .int .i64 f.rate, .slice Ap f.path.length cp] 47) = w7 at *
                      clear qb qd qw qdf qbf hfc0 hfc1 hfc2 hOB hDS hp1 hp hx0 hx1 hW7 hsb hB hD q0 q1 hlc hbw
                      have e1 : IntKind.i64.wrap (x.delay + wt) = x.delay + wt := IntWalk.i64_in _ (by omega)
                      have e2 : IntKind.i64.wrap (D m + (x.delay + wt)) = D m + (x.delay + wt) := IntWalk.i64_in _ (by omega)
                      refine wp_region_quiet_tail 17 (by kernel_rfl) (by kernel_rfl) ?_
                      simp only [List.take_succ_cons, List.take_zero, List.drop_succ_cons, List.drop_zero]
                      repeat (go_big_quiet_step (fail))
                      refine wpQuiet_nil ?_
                      clear e1 e2
                      generalize hdv : D m + (x.delay + wt) = dv at *
                      have hDS8 := (hDS7.setD m dv (fun _ => rfl)).drew
                      have s1 : (w7.setCell ⟨w4.heap.size, m, none⟩ (.int .i64 dv)).drew.cell? ⟨wr.heap.size, 1, none⟩ = some (.int .i64 f.rate) := (cell_far (by omega)).trans n1
                      have s2 : (w7.setCell ⟨w4.heap.size, m, none⟩ (.int .i64 dv)).drew.cell? ⟨wr.heap.size, 2, none⟩ = some (.slice Ap f.path.length cp) := (cell_far (by omega)).trans n2
                      have s3 : (w7.setCell ⟨w4.heap.size, m, none⟩ (.int .i64 dv)).drew.cell? ⟨w3.heap.size, k, none⟩ = some (.int .i64 wt) := (cell_far (by omega)).trans r1
                      obtain ⟨gb', he8, _, hOB8⟩ := hDS8.ob (by omega)
                      injection he8 with he8
                      injection he8 with he8
                      subst he8
                      have s4 : (w7.setCell ⟨w4.heap.size, m, none⟩ (.int .i64 dv)).drew.cell? ⟨gb, m, none⟩ = some (.int .i64 (B m)) := by have := hOB8.cell hlm; simpa using this
                      have s5 := hOB8.frozen m
                      by_cases hq1 : q + 1 < f.path.length
                      · go_wp2_with fail
                        generalize hW8 : (w7.setCell ⟨w4.heap.size, m, none⟩ (.int .i64 dv)).drew = w8 at *
                        clear hW8 hDS7 r0 r1 r2 r3 n1 n2 s2 hx1'
                        have HMT : Hid (moreI n k m = true) := by show _ = _; rw [HMI.out, decide_eq_true hq1]
                        have HBB : Hid (burstI n B k wt m = B m + f.rate * wt) := by show _ = _; unfold burstI; rw [if_pos HMT.out, HFA.out]
                        have e1 : IntKind.i64.wrap (f.rate * wt) = f.rate * wt := IntWalk.i64_in _ (by omega)
                        have e2 : IntKind.i64.wrap (B m + f.rate * wt) = B m + f.rate * wt := IntWalk.i64_in _ (by omega)
                        refine wp_region_quiet_tail 13 (by kernel_rfl) (by kernel_rfl) ?_
                        simp only [List.take_succ_cons, List.take_zero, List.drop_succ_cons, List.drop_zero]
                        repeat (go_big_quiet_step (fail))
                        refine wpQuiet_nil ?_
                        clear e1 e2
                        generalize hbv : B m + f.rate * wt = bv at *
                        have hDS9 := (hDS8.setB (by omega) m bv (fun _ => rfl)).drew
                        obtain ⟨gb', he9, _, hOB9⟩ := hDS9.ob (by omega)
                        injection he9 with he9
                        injection he9 with he9
                        subst he9
                        have t1 : (w8.setCell ⟨gb, m, none⟩ (.int .i64 bv)).drew.cell? ⟨gb, m, none⟩ = some (.int .i64 bv) := by have := hOB9.cell hlm; simpa using this
                        by_cases hbig : 1000000000 < bv
                        · go_wp2_with fail
                          go_ret3
                          exact del_none hDS9.env.old HC.out HL.out (by rw [← HI.out, HDR.out, delI_over (by rw [HS.out]; exact H0.out) hlm (by rw [HWV.out]; unfold overB; rw [HTH.out, HBB.out, decide_eq_true hbig]; rfl)])
                        · go_wp2_with fail
                          go_roundw
                          case rel => exact ⟨rfl, rfl, m + 1, by omega, by go_num, nat_snoc HOV.out (by unfold overB; rw [HTH.out, HBB.out, decide_eq_false hbig]; rfl),
                            hDS9.congr (fun j _ => step_upd HBB.out j) (fun j _ => step_upd HDD.out j)⟩
                          case measure => simp [intOf]; omega
                      · go_wp2_with fail
                        have HMT : Hid (moreI n k m = false) := by show _ = _; rw [HMI.out, decide_eq_false hq1]
                        have HBB : Hid (burstI n B k wt m = B m) := by show _ = _; unfold burstI; rw [HMT.out]; rfl
                        go_roundw
                        case rel => exact ⟨rfl, rfl, m + 1, by omega, by go_num, nat_snoc HOV.out (by unfold overB; rw [HBB.out, decide_eq_false (by omega)]; simp),
                          hDS8.congr (fun j _ => step_same HBB.out j) (fun j _ => step_upd HDD.out j)⟩
                        case measure => simp [intOf]; omega
                  · obtain rfl : m = n.flows.length := by omega
                    have HBO := Lib.hid (burst_ok HV.out hB hwt.1 HOV.out)
                    have HDO := Lib.hid (delay_ok HV.out HX.out hwt hD)
                    have hDSe := hDS.congr (fun j hj => all_upd j hj) (fun j hj => all_upd j hj)
                    clear hB hD
                    go_wp2_with fail
                    go_roundw
                    case rel => exact ⟨rfl, rfl, t + 1, burstI n B k wt, setW W k wt, delayD n D k wt, by omega, by go_num, by show _ = _; rw [← HI.out, HDR.out, delI_step (by rw [HS.out]; exact H0.out) (fun j hj => by rw [HWV.out]; exact HOV.out j hj), HWV.out], HBO.out, HDO.out, hDSe⟩
                    case measure => simp [intOf]; omega
        · obtain rfl : t = l.length := by omega
          have HRES : Hid (delI n l (burst0 n) (fun _ => 0) (fun _ => 0) = some (W, D)) := by show _ = _; rw [← HI.out, List.drop_length]; rfl
          go_wp2_with fail
          go_ret3
          exact del_some hDS.env.old HC.out HL.out HRES.out (by omega) (by omega) hDS.ow hDS.od
end Go.Proofs.Ytlbbhlkbhegegaa
