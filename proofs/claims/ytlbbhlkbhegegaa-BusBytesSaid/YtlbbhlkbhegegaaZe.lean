/- Walks: ignitionlaw04.BusBytes. -/
import Derived.Test.YtlbbhlkbhegegaaZm
import Derived.Test.YtlbbhlkbhegegaaYi
import Derived.Test.YtlbbhlkbhegegaaWm
namespace Go.Proofs.Ytlbbhlkbhegegaa
open Go.RowKit

def RetP (w : World) (p : List Int × List Int × Int) (e : Ending) (w' : World) : Prop :=
  Below w.heap.size w w' ∧ ∃ A1 k1 A2 k2, e = .returned (.tuple #[.slice A1 p.1.length k1, .slice A2 p.2.1.length k2, .int .i64 p.2.2]) ∧ IntsA w' w'.heap.size A2 p.2.1
theorem ints_nil (w : World) (B : Nat) (A : Option Addr) : IntsA w B A [] := ⟨Nat.zero_le _, fun h => by simp at h⟩
theorem retP_of {n : MNet} {w w' : World} {e : Ending} {res : List Int → Option ((Nat → Int) × (Nat → Int))} (hr : ∀ l, checkS n = 0 → orderS n = some l → res l = delI n l (burst0 n) (fun _ => 0) (fun _ => 0)) (h : DelPost n res w e w') : RetP w (delP n) e w' := by
  obtain ⟨hb, h⟩ := h
  refine ⟨hb, ?_⟩
  rcases h with ⟨hc, rfl⟩ | ⟨hc, l, hl, h⟩
  · have e1 : delP n = ([], [], checkS n) := by unfold delP; rw [if_pos hc]
    rw [e1]
    exact ⟨none, 0, none, 0, rfl, ints_nil _ _ _⟩
  · have h1 := hr l hc hl
    rcases h with ⟨h2, rfl⟩ | ⟨W, D, gw, gd, h2, rfl, _, _, hW, hD⟩
    · have e1 : delP n = ([], [], 41) := by
        unfold delP
        rw [if_neg (by simpa using hc), hl]
        simp only [← h1, h2]
      rw [e1]
      exact ⟨none, 0, none, 0, rfl, ints_nil _ _ _⟩
    · have e1 : delP n = ((List.range n.gates.length).map W, (List.range n.flows.length).map D, 0) := by
        unfold delP
        rw [if_neg (by simpa using hc), hl]
        simp only [← h1, h2]
      have hv := check_parts hc
      have hn := netB_len hv.1
      rw [e1]
      refine ⟨some ⟨gw, 0, none⟩, n.gates.length, some ⟨gd, 0, none⟩, n.flows.length, ?_, own_map0 hD (by omega)⟩
      simp
theorem delays_p (A1 A2 : Option Addr) (c1 c2 : Nat) (n : MNet) (w : World) (h : NetA w w.heap.size A1 A2 n) {p : List Int × List Int × Int} (hp : delP n = p) :
    Calls Try.prog 19 #[.agg #[.slice A1 n.gates.length c1, .slice A2 n.flows.length c2]] w (RetP w p) := by
  subst hp
  by_cases hc : checkS n = 0
  · exact (delays_any A1 A2 c1 c2 n w h hc).mono fun e w' hp => retP_of (fun _ _ _ => rfl) hp
  · exact (delays_err A1 A2 c1 c2 n w h (fun _ => none) hc).mono fun e w' hp => retP_of (fun _ h0 _ => absurd h0 hc) hp
theorem loT_bd {n : MNet} (hv : netB n = true) {i : Nat} (hi : i < n.flows.length) : ∀ h, h ≤ (flowAt n i).path.length → 0 ≤ loT n i h ∧ loT n i h ≤ 1000 * (h : Int)
  | 0, _ => by rw [loT]; omega
  | h + 1, hh => by
    have h1 := loT_bd hv hi h (by omega)
    have h2 := (gAt_ok hv hi (show h < (flowAt n i).path.length by omega)).1
    have h3 := (netB_gate hv (List.getElem?_eq_getElem h2)).2
    rw [← gateAt_of (List.getElem?_eq_getElem h2)] at h3
    rw [loT]; omega
section
variable {A1 A2 : Option Addr} {c1 c2 : Nat} {n : MNet}
set_option maxRecDepth 100000 in
set_option maxHeartbeats 8000000 in
theorem busBytes_any (O : Option Addr) (cap : Nat) (tr : List (List Int)) (w : World) (h : NetA w w.heap.size A1 A2 n) (hT : RowsT w w.heap.size O tr) :
    Calls Try.prog 14 #[.agg #[.slice A1 n.gates.length c1, .slice A2 n.flows.length c2], .slice O tr.length cap] w fun e w' => e = .returned (.bool true) ∧ Below w.heap.size w w' := by
  have hE := NetEnv.make (c1 := c1) (c2 := c2) (t := 25) h
  obtain ⟨w1, hw1⟩ : ∃ w1, w.alloc (.cells #[.slice A1 n.gates.length c1, .slice A2 n.flows.length c2] 25) = w1 := ⟨_, rfl⟩
  rw [hw1] at hE
  have HT0 : Hid (∀ W, Below w.heap.size w W → RowsT W w.heap.size O tr) := fun W hW => hT.below hW (Nat.le_refl _)
  have HS1 := Lib.hid hE.size
  have HW : Hid (∀ W, Below w1.heap.size w1 W → NetEnv w w.heap.size A1 c1 A2 c2 n W ∧ RowsT W w.heap.size O tr) := fun W hW => ⟨hE.below hW HS1.out, HT0.out W (hE.below hW HS1.out).old⟩
  have m0 := hE.c0
  have m1 := hE.c1
  have htl := hT.1
  have hgl := h.1
  have hfl := h.2.1
  unfold maxLen at htl hgl hfl
  have HC1 : Hid (Calls Try.prog 42 #[.agg #[.slice A1 n.gates.length c1, .slice A2 n.flows.length c2], .slice O tr.length cap] w1 (MuchP n tr w1)) := by
    have h1 := HW.out w1 (Below.refl _ _)
    exact much_any O cap tr w1 (h1.1.net.more (Nat.le_of_lt h1.1.size)) (h1.2.more (Nat.le_of_lt h1.1.size))
  clear h hT hE HT0
  go_enter Try.func14, Try.ntmps14
  go_upto_region 1 with fail
  (try rw [hw1])
  clear hw1
  go_upto_if 18 with (go_at_call 42; refine HC1.out.mono ?_; rintro e w2 ⟨r, rfl, hr, hb2⟩; have HR := Lib.hid hr; have HB2 := Lib.hid hb2; clear hr hb2)
  clear HC1 m0 m1
  have HOLD : Hid (∀ W, Below w1.heap.size w1 W → Below w.heap.size w W) := fun W hW => (HW.out W hW).1.old
  rcases r
  rotate_left
  · have hc := works_any w2
    go_wp2_with fail
    refine hc.mono ?_
    rintro e w3 ⟨rfl, hb3⟩
    have HB3 := Lib.hid (HB2.out.trans (hb3.mono HB2.out.size))
    clear hc hb3
    go_wp2_with fail
    go_ret
    exact ⟨rfl, HOLD.out _ HB3.out⟩
  have HNM := Lib.hid (HR.out rfl)
  clear HR
  obtain ⟨⟨m, es⟩, hs⟩ : ∃ p, sendOut n tr = p := ⟨_, rfl⟩
  obtain ⟨⟨x, a, ed⟩, hd⟩ : ∃ p, delP n = p := ⟨_, rfl⟩
  have HSO := Lib.hid hs
  have HDO := Lib.hid hd
  have HC2 : Hid (Calls Try.prog 45 #[.agg #[.slice A1 n.gates.length c1, .slice A2 n.flows.length c2], .slice O tr.length cap] w2 (RetS w2 (m, es))) := by
    have h1 := HW.out w2 HB2.out
    exact send_any45 O cap tr w2 (h1.1.net.more (Nat.le_of_lt h1.1.size)) (h1.2.more (Nat.le_of_lt h1.1.size)) (fun hc hl hlaw => HNM.out.most (check_parts hc).1 hl hlaw) hs
  clear hs hd
  have m0 := (HW.out w2 HB2.out).1.c0
  have m1 := (HW.out w2 HB2.out).1.c1
  go_upto_region 4 with (go_at_call 45; refine HC2.out.mono ?_; rintro e w3 ⟨hb3, X, xk, rfl, hxk, hX⟩; have HX := Lib.hid hX; have HB3 := Lib.hid hb3; clear hX hb3)
  clear HC2 m0 m1
  have HB13 := Lib.hid (HB2.out.trans (HB3.out.mono HB2.out.size))
  have HC3 : Hid (Calls Try.prog 19 #[.agg #[.slice A1 n.gates.length c1, .slice A2 n.flows.length c2]] w3 (RetP w3 (x, a, ed))) := by
    have h1 := HW.out w3 HB13.out
    exact delays_p _ _ _ _ n w3 (h1.1.net.more (Nat.le_of_lt h1.1.size)) HDO.out
  have m0 := (HW.out w3 HB13.out).1.c0
  have m1 := (HW.out w3 HB13.out).1.c1
  go_upto_region 5 with (go_at_call 19; refine HC3.out.mono ?_; rintro e w4 ⟨hb4, Z, zk, D, dk, rfl, hD⟩; have HD := Lib.hid hD; have HB4 := Lib.hid hb4; clear hD hb4)
  clear HC3 m0 m1 HB2
  have HB14 := Lib.hid (HB13.out.trans (HB4.out.mono HB13.out.size))
  have HWX := Lib.hid (works_any w4)
  by_cases hes : es = 0
  rotate_left
  · have hc0 : (es == 0) = false := by simpa using hes
    have hc1 : (es != 0) = true := by simpa using hes
    go_wp2_with fail
    refine HWX.out.mono ?_
    rintro e w5 ⟨rfl, hb5⟩
    have HB5 := Lib.hid (HB14.out.trans (hb5.mono HB14.out.size))
    clear hb5
    go_wp2_with fail
    go_ret
    exact ⟨rfl, HOLD.out _ HB5.out⟩
  by_cases hed : ed = 0
  rotate_left
  · have hc0 : (ed == 0) = false := by simpa using hed
    have hc1 : (ed != 0) = true := by simpa using hed
    subst hes
    go_wp2_with fail
    refine HWX.out.mono ?_
    rintro e w5 ⟨rfl, hb5⟩
    have HB5 := Lib.hid (HB14.out.trans (hb5.mono HB14.out.size))
    clear hb5
    go_wp2_with fail
    go_ret
    exact ⟨rfl, HOLD.out _ HB5.out⟩
  subst hes hed
  clear HWX
  obtain ⟨hc, htn, hlaw, hmn⟩ := sendOut_ok HSO.out
  obtain ⟨_, hv, han⟩ := delP_ok HDO.out
  have HC := Lib.hid hc
  have HV := Lib.hid hv
  have HLAW := Lib.hid hlaw
  have HTN := Lib.hid htn
  have HMN := Lib.hid hmn
  have HAN := Lib.hid han
  have hnl := netB_len hv
  rw [htn, hmn, han]
  rw [htn] at htl
  rw [hmn] at hxk
  clear hc htn hlaw hmn han hv
  obtain ⟨F, hF⟩ : ∃ F, n.flows.length = F := ⟨_, rfl⟩
  have HF := Lib.hid hF
  rw [hF] at hnl hfl htl hxk
  rw [hF]
  clear hF
  -- what is known of each later world
  have HL : Hid (∀ W, Below w4.heap.size w4 W → (W.cell? ⟨w.heap.size, 0, none⟩ = some (.slice A1 n.gates.length c1) ∧ W.cell? ⟨w.heap.size, 1, none⟩ = some (.slice A2 F c2)) ∧ NetA W w.heap.size A1 A2 n ∧ RowsT W w.heap.size O tr ∧ IntsA W w4.heap.size X m ∧ IntsA W w4.heap.size D a ∧ Below w.heap.size w W) := fun W hW => by
    have h1 := HB14.out.trans (hW.mono HB14.out.size)
    have h2 := HW.out W h1
    have h3 := h2.1.c1
    rw [HF.out] at h3
    exact ⟨⟨h2.1.c0, h3⟩, h2.1.net, h2.2, ((HX.out.below HB4.out (Nat.le_refl _)).more HB4.out.size).below hW (Nat.le_refl _), HD.out.below hW (Nat.le_refl _), HOLD.out W h1⟩
  obtain ⟨⟨m0, m1⟩, _⟩ := HL.out w4 (Below.refl _ _)
  go_wp2_with fail
  clear m0 m1
  go_loopw [10] (fun vi wr => ∃ i : Nat, vi = .int .i64 i ∧ i ≤ F ∧ Below w4.heap.size w4 wr ∧ Hid (∀ j, j < i → (confS (flowAt n j).burst (flowAt n j).rate (tr.getD j [])).1 = true)) (fun vi _ => F - (intOf vi).toNat)
  case atStart => exact ⟨0, rfl, Nat.zero_le _, Below.refl _ _, fun j hj => by omega⟩
  case round =>
    obtain ⟨i, rfl, hi, hbw, HI⟩ := hrel
    have HBW := Lib.hid hbw
    clear hbw
    by_cases hlt : i < F
    · obtain ⟨⟨m0, m1⟩, hN, hR, _⟩ := HL.out wr HBW.out
      obtain ⟨fl, fb, fo, Ap, pc, hgf, hA2, hfb, y0, y1, y2, hpc, hP⟩ := hN.2.2.2.at_ (k := i) (by rw [HF.out]; exact hlt)
      obtain ⟨l, ab, ao, Rp, rc, hgl', hO, hab, ac, hrc, hI⟩ := hR.at_ (k := i) (by rw [HTN.out, HF.out]; exact hlt)
      have hfe : flowAt n i = fl := flowAt_of hgf
      have hre : tr.getD i [] = l := by rw [List.getD_eq_getElem?_getD, hgl']; rfl
      have hsz := HBW.out.size
      have hs4 := HB14.out.size
      have hs1 := HS1.out
      have hx2 := conf_err HV.out HLAW.out HTN.out (i := i) (by rw [HF.out]; exact hlt)
      rw [hfe, hre] at hx2
      obtain ⟨q, hq⟩ : ∃ q, (confS fl.burst fl.rate l).1 = q := ⟨_, rfl⟩
      have hp : confS fl.burst fl.rate l = (q, 0) := Prod.ext hq hx2
      have HQ : Hid ((confS (flowAt n i).burst (flowAt n i).rate (tr.getD i [])).1 = q) := by show _ = _; rw [hfe, hre]; exact hq
      have HCF : Hid (∀ s : BW wr.heap.size wr, Calls Try.prog 43 #[.agg #[.int .i64 fl.burst, .int .i64 fl.rate, .slice Ap fl.path.length pc], .slice Rp l.length rc] s.1 fun e w' => e = .returned (.tuple #[.bool q, .int .i64 0]) ∧ Below s.1.heap.size s.1 w') := fun s => conforms_any fl.burst fl.rate Ap fl.path.length pc Rp rc l s.1 ((hI.more (by omega)).below s.2 (Nat.le_refl _) |>.more s.2.size) hrc hp
      subst hA2 hO
      have k0 := BW.cell (B := wr.heap.size) (show w.heap.size < wr.heap.size by omega) m0
      have k1 := BW.cell (B := wr.heap.size) (show w.heap.size < wr.heap.size by omega) m1
      have k2 := BW.cell (B := wr.heap.size) (show fb < wr.heap.size by omega) y0
      have k3 := BW.cell (B := wr.heap.size) (show fb < wr.heap.size by omega) y1
      have k4 := BW.cell (B := wr.heap.size) (show fb < wr.heap.size by omega) y2
      have k5 := BW.cell (B := wr.heap.size) (show ab < wr.heap.size by omega) ac
      obtain ⟨pl, hpl⟩ : ∃ pl, fl.path.length = pl := ⟨_, rfl⟩
      obtain ⟨ll, hll⟩ : ∃ ll, l.length = ll := ⟨_, rfl⟩
      rw [hpl] at HCF k4
      rw [hll] at HCF k5
      clear hgf hgl' hfe hre hx2 hq hp hN hR hI hP y0 y1 y2 ac hpc hrc hpl hll
      go_wp2_with fail
      clear m0 m1
      refine wp_region_below wr.heap.size wr (Below.refl _ _) (by kernel_rfl) (by kernel_rfl) ?_
      repeat (go_big_quiet_step ((go_at_call 43; exact quiet_below (Nat.le_refl _) (HCF.out _))))
      refine wpQuiet_nil ?_
      clear k0 k1 k2 k3 k4 k5 HCF
      intro s
      have HB5 := Lib.hid (HBW.out.trans (s.2.mono hsz))
      generalize s.1 = w5 at *
      rcases q
      · have hc := works_any w5
        go_wp2_with fail
        refine hc.mono ?_
        rintro e w6 ⟨rfl, hb6⟩
        have HB6 := Lib.hid (HB14.out.trans ((HB5.out.trans (hb6.mono HB5.out.size)).mono HB14.out.size))
        clear hc hb6
        go_wp2_with fail
        go_ret
        exact ⟨rfl, HOLD.out _ HB6.out⟩
      · go_wp2_with fail
        go_roundw
        case rel => exact ⟨i + 1, by go_num, by omega, HB5.out, fun j hj => by
          rcases Nat.lt_or_ge j i with h1 | h1
          · exact HI.out j h1
          · obtain rfl : j = i := by omega
            exact HQ.out⟩
        case measure => simp [intOf]; omega
    · obtain rfl : i = F := by omega
      have HLAWS := Lib.hid (nets_law HSO.out HDO.out (HNM.out.most HV.out HTN.out HLAW.out).1 (fun j hj => HI.out j (by rw [← HF.out]; exact hj))).2.2.2
      obtain ⟨⟨m0, m1⟩, _⟩ := HL.out wr HBW.out
      go_wp2_with fail
      clear m0 m1 HI
      obtain ⟨w9, rfl⟩ : ∃ w9 : World, w9 = wr := ⟨_, rfl⟩
      have HBW9 := HBW
      clear HBW
      go_loopw [13] (fun vi wr => ∃ k : Nat, vi = .int .i64 k ∧ k ≤ i ∧ Below w4.heap.size w4 wr) (fun vi _ => i - (intOf vi).toNat)
      case atStart => exact ⟨0, rfl, Nat.zero_le _, HBW9.out⟩
      case round =>
        obtain ⟨k, rfl, hk, hbw⟩ := hrel
        have HBW := Lib.hid hbw
        clear hbw
        by_cases hlt : k < i
        · have hlaw := HLAWS.out k (by rw [HF.out]; exact hlt)
          obtain ⟨wx, rfl⟩ : ∃ wx : World, wx = wr := ⟨_, rfl⟩
          have HPL := Lib.hid (flow_some (n := n) (i := k) (by rw [HF.out]; exact hlt))
          obtain ⟨pl, hpl⟩ : ∃ pl, (flowAt n k).path.length = pl := ⟨_, rfl⟩
          have HPN := Lib.hid hpl
          rw [hpl] at hlaw
          have hp8 := (netB_flow HV.out HPL.out).2.1
          rw [inB_iff, hpl] at hp8
          obtain ⟨mi, hmi⟩ : ∃ mi, m.getD k 0 = mi := ⟨_, rfl⟩
          obtain ⟨ai, hai⟩ : ∃ ai, a.getD k 0 = ai := ⟨_, rfl⟩
          obtain ⟨lo, hlo⟩ : ∃ lo, loT n k pl = lo := ⟨_, rfl⟩
          rw [hmi, hai, hlo] at hlaw
          have HLO := Lib.hid hlo
          have HMI := Lib.hid hmi
          have HAI := Lib.hid hai
          clear hpl hmi hai hlo
          go_wp2_with fail
          go_loopw [14, 15] (fun vl vj wr => ∃ j : Nat, vj = .int .i64 j ∧ j ≤ pl ∧ vl = .int .i64 (loT n k j) ∧ Below w4.heap.size w4 wr) (fun _ vj _ => pl - (intOf vj).toNat)
          case atStart => exact ⟨0, rfl, Nat.zero_le _, rfl, HBW.out⟩
          case round =>
            obtain ⟨j, rfl, hj, rfl, hbw⟩ := hrel
            have HBJ := Lib.hid hbw
            clear hbw
            obtain ⟨⟨m0, m1⟩, hN, _, hX, hD, _⟩ := HL.out wr HBJ.out
            obtain ⟨fl, fb, fo, Ap, pc, hgf, hA2, hfb, y0, y1, y2, hpc, hP⟩ := hN.2.2.2.at_ (k := k) (by rw [HF.out]; exact hlt)
            have hfe : flowAt n k = fl := flowAt_of hgf
            have hfp : fl.path.length = pl := by rw [← hfe]; exact HPN.out
            by_cases hjl : j < pl
            · have hg := gAt_ok HV.out (i := k) (by rw [HF.out]; exact hlt) (h := j) (by rw [HPN.out]; exact hjl)
              obtain ⟨pb, po, hAp, hpb, y3⟩ := hP.at_ (k := j) (by rw [hfp]; exact hjl)
              have hpe : fl.path.getD j 0 = (gAt n k j : Int) := by rw [← hfe]; exact hg.2
              obtain ⟨g, hge⟩ : ∃ g, gAt n k j = g := ⟨_, rfl⟩
              rw [hpe, hge] at y3
              rw [hge] at hg
              obtain ⟨ga, gb, go, hga, hA1, hgb, z0, z1⟩ := hN.2.2.1.at_ hg.1
              have hgd := (netB_gate HV.out hga).2
              have hge2 := gateAt_of hga
              have HLT : Hid (loT n k (j + 1) = loT n k j + ga.delay) := by show _ = _; rw [loT, hge, hge2]
              have hlb := loT_bd HV.out (i := k) (by rw [HF.out]; exact hlt) j (by rw [HPN.out]; omega)
              obtain ⟨lj, hlj⟩ : ∃ lj, loT n k j = lj := ⟨_, rfl⟩
              rw [hlj] at hlb HLT
              obtain ⟨dg, hdg⟩ : ∃ dg, ga.delay = dg := ⟨_, rfl⟩
              rw [hdg] at HLT z1 hgd
              have e1 : IntKind.i64.wrap (lj + dg) = lj + dg := IntWalk.i64_in _ (by omega)
              have hgl2 := hg.1
              subst hA2 hAp hA1
              rw [hfp] at y2
              (try rw [hlj])
              clear hgf hfe hX hD hN hP hg hpe hge hga hge2 hlj hdg hpc hfp z0 y0 y1
              go_wp2_with fail
              go_quiet (fail)
              go_wp2_with fail
              go_roundw
              case rel => exact ⟨j + 1, by go_num, by omega, by rw [HLT.out], below_drewN HBJ.out _⟩
              case measure => simp [intOf]; omega
            · obtain rfl : j = pl := by omega
              obtain ⟨xb, xo, hXe, _, z0⟩ := hX.at_ (k := k) (by rw [HMN.out, HF.out]; exact hlt)
              obtain ⟨db, dO, hDe, _, z1⟩ := hD.at_ (k := k) (by rw [HAN.out, HF.out]; exact hlt)
              rw [HMI.out] at z0
              rw [HAI.out] at z1
              rw [HLO.out]
              subst hA2 hXe hDe
              rw [hfp] at y2
              clear hgf hfe hX hD hN hP hpc hfp y0 y1
              have g1 : decide (mi > ai) = false := decide_eq_false (by omega)
              have g3 : (0 ≤ mi) → decide (mi < lo) = false := fun h => decide_eq_false (by omega)
              by_cases h0 : mi ≥ 0
              · have g2 : decide (mi ≥ 0) = true := decide_eq_true h0
                have g4 := g3 h0
                clear g3
                go_wp2_with fail
                go_quiet (fail)
                go_wp2_with fail
                go_roundw
                case rel => exact ⟨k + 1, by go_num, by omega, below_drewN HBJ.out _⟩
                case measure => simp [intOf]; omega
              · have g2 : decide (mi ≥ 0) = false := decide_eq_false h0
                clear g3
                go_wp2_with fail
                go_quiet (fail)
                go_wp2_with fail
                go_roundw
                case rel => exact ⟨k + 1, by go_num, by omega, below_drewN HBJ.out _⟩
                case measure => simp [intOf]; omega
        · obtain rfl : k = i := by omega
          have hc := works_any wr
          go_wp2_with fail
          refine hc.mono ?_
          rintro e w6 ⟨rfl, hb6⟩
          have HB6 := Lib.hid (HB14.out.trans ((HBW.out.trans (hb6.mono HBW.out.size)).mono HB14.out.size))
          clear hc hb6
          go_wp2_with fail
          go_ret
          exact ⟨rfl, HOLD.out _ HB6.out⟩
end
theorem busBytes_row (A1 A2 : Option Addr) (c1 c2 : Nat) (n : MNet) (O : Option Addr) (cap : Nat) (tr : List (List Int)) (w : World) (h : NetA w w.heap.size A1 A2 n) (_ : tr.length ≤ cap) (_ : cap ≤ maxLen) (hT : RowsT w w.heap.size O tr) (_ : True) :
    Calls Try.prog 14 #[.agg #[.slice A1 n.gates.length c1, .slice A2 n.flows.length c2], .slice O tr.length cap] w fun e w' => e = .returned (.bool true) ∧ Below w.heap.size w w' := busBytes_any O cap tr w h hT
end Go.Proofs.Ytlbbhlkbhegegaa
