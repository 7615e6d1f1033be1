/- Walks: ignitionlaw04.BusSends. -/
import Derived.Test.YtlbbhlkbhegegaaZm
import Derived.Test.YtlbbhlkbhegegaaYl2
import Derived.Test.YtlbbhlkbhegegaaWm
namespace Go.Proofs.Ytlbbhlkbhegegaa
open Go.RowKit

section
variable {A1 A2 : Option Addr} {c1 c2 : Nat} {n : MNet}
set_option maxRecDepth 100000 in
set_option maxHeartbeats 8000000 in
theorem busSends_any (O : Option Addr) (cap : Nat) (tr : List (List Int)) (w : World) (h : NetA w w.heap.size A1 A2 n) (hT : RowsT w w.heap.size O tr) :
    Calls Try.prog 13 #[.agg #[.slice A1 n.gates.length c1, .slice A2 n.flows.length c2], .slice O tr.length cap] w fun e w' => e = .returned (.bool true) ∧ Below w.heap.size w w' := by
  have hE := NetEnv.make (c1 := c1) (c2 := c2) (t := 25) h
  obtain ⟨w1, hw1⟩ : ∃ w1, w.alloc (.cells #[.slice A1 n.gates.length c1, .slice A2 n.flows.length c2] 25) = w1 := ⟨_, rfl⟩
  rw [hw1] at hE
  have HT0 : Hid (∀ W, Below w.heap.size w W → RowsT W w.heap.size O tr) := fun W hW => hT.below hW (Nat.le_refl _)
  have HS1 := Lib.hid hE.size
  have HW : Hid (∀ W, Below w1.heap.size w1 W → NetEnv w w.heap.size A1 c1 A2 c2 n W ∧ RowsT W w.heap.size O tr) := fun W hW => ⟨hE.below hW HS1.out, HT0.out W (hE.below hW HS1.out).old⟩
  have m0 := hE.c0
  have m1 := hE.c1
  have htl := hT.1
  have hgl := h.1
  have hfl := h.2.1
  unfold maxLen at htl hgl hfl
  have HC1 : Hid (Calls Try.prog 42 #[.agg #[.slice A1 n.gates.length c1, .slice A2 n.flows.length c2], .slice O tr.length cap] w1 (MuchP n tr w1)) := by
    have h1 := HW.out w1 (Below.refl _ _)
    exact much_any O cap tr w1 (h1.1.net.more (Nat.le_of_lt h1.1.size)) (h1.2.more (Nat.le_of_lt h1.1.size))
  clear h hT hE HT0
  go_enter Try.func13, Try.ntmps13
  go_upto_region 1 with fail
  (try rw [hw1])
  clear hw1
  go_upto_if 16 with (go_at_call 42; refine HC1.out.mono ?_; rintro e w2 ⟨r, rfl, hr, hb2⟩; have HR := Lib.hid hr; have HB2 := Lib.hid hb2; clear hr hb2)
  clear HC1 m0 m1
  have HOLD : Hid (∀ W, Below w1.heap.size w1 W → Below w.heap.size w W) := fun W hW => (HW.out W hW).1.old
  rcases r
  rotate_left
  · have hc := works_any w2
    go_wp2_with fail
    refine hc.mono ?_
    rintro e w3 ⟨rfl, hb3⟩
    have HB3 := Lib.hid (HB2.out.trans (hb3.mono HB2.out.size))
    clear hc hb3
    go_wp2_with fail
    go_ret
    exact ⟨rfl, HOLD.out _ HB3.out⟩
  have HNM := Lib.hid (HR.out rfl)
  clear HR
  obtain ⟨⟨m, es⟩, hs⟩ : ∃ p, sendOut n tr = p := ⟨_, rfl⟩
  have HSO := Lib.hid hs
  have HMU : Hid (checkS n = 0 → tr.length = n.flows.length → tr.all lawfulB = true → totW (startW tr tr.length) ≤ 6000 ∧ n.gates.length ≤ 8) := fun hc hl hlaw => HNM.out.most (check_parts hc).1 hl hlaw
  clear hs
  obtain ⟨F, hF⟩ : ∃ F, n.flows.length = F := ⟨_, rfl⟩
  have HF := Lib.hid hF
  obtain ⟨T, hT⟩ : ∃ T, tr.length = T := ⟨_, rfl⟩
  have HTL := Lib.hid hT
  rw [hF] at hfl
  rw [hT] at htl
  rw [hF, hT]
  clear hF hT
  -- what is known of each later world
  have HL : Hid (∀ W, Below w2.heap.size w2 W → (W.cell? ⟨w.heap.size, 0, none⟩ = some (.slice A1 n.gates.length c1) ∧ W.cell? ⟨w.heap.size, 1, none⟩ = some (.slice A2 F c2)) ∧ NetA W w.heap.size A1 A2 n ∧ RowsT W w.heap.size O tr ∧ Below w.heap.size w W ∧ w.heap.size < W.heap.size) := fun W hW => by
    have h1 := HB2.out.trans (hW.mono HB2.out.size)
    have h2 := HW.out W h1
    have h3 := h2.1.c1
    rw [HF.out] at h3
    exact ⟨⟨h2.1.c0, h3⟩, h2.1.net, h2.2, HOLD.out W h1, h2.1.size⟩
  obtain ⟨⟨m0, m1⟩, _⟩ := HL.out w2 (Below.refl _ _)
  go_wp2_with fail
  clear m0 m1
  go_loopw [5] (fun vi wr => ∃ i : Nat, vi = .int .i64 i ∧ i ≤ F ∧ i ≤ T ∧ Below w2.heap.size w2 wr) (fun vi _ => F - (intOf vi).toNat)
  case atStart => exact ⟨0, rfl, Nat.zero_le _, Nat.zero_le _, Below.refl _ _⟩
  case round =>
    obtain ⟨i, rfl, hi, hiT, hbw⟩ := hrel
    have HBW := Lib.hid hbw
    clear hbw
    obtain ⟨⟨m0, m1⟩, hN, hR, hold, hws⟩ := HL.out wr HBW.out
    by_cases hltT : i < T
    · by_cases hlt : i < F
      · obtain ⟨fl, fb, fo, Ap, pc, hgf, hA2, hfb, y0, y1, y2, hpc, hP⟩ := hN.2.2.2.at_ (k := i) (by rw [HF.out]; exact hlt)
        obtain ⟨l, ab, ao, Rp, rc, hgl', hO, hab, ac, hrc, hI⟩ := hR.at_ (k := i) (by rw [HTL.out]; exact hltT)
        have hsz := HBW.out.size
        obtain ⟨⟨q, c⟩, hp⟩ : ∃ p, confS fl.burst fl.rate l = p := ⟨_, rfl⟩
        have HCF : Hid (∀ s : BW wr.heap.size wr, Calls Try.prog 43 #[.agg #[.int .i64 fl.burst, .int .i64 fl.rate, .slice Ap fl.path.length pc], .slice Rp l.length rc] s.1 fun e w' => e = .returned (.tuple #[.bool q, .int .i64 c]) ∧ Below s.1.heap.size s.1 w') := fun s => conforms_any fl.burst fl.rate Ap fl.path.length pc Rp rc l s.1 ((hI.more (by omega)).below s.2 (Nat.le_refl _) |>.more s.2.size) hrc hp
        have HCR : Hid (∀ W, Below wr.heap.size wr W → ∀ s : BW W.heap.size W, Calls Try.prog 44 #[.agg #[.int .i64 fl.burst, .int .i64 fl.rate, .slice Ap fl.path.length pc], .slice Rp l.length rc] s.1 fun e w' => e = .returned (.tuple #[.bool q, .int .i64 c]) ∧ Below s.1.heap.size s.1 w') := fun W hW s => rconforms_any fl.burst fl.rate Ap fl.path.length pc Rp rc l s.1 ((((hI.more (by omega)).below hW (Nat.le_refl _)).more hW.size).below s.2 (Nat.le_refl _) |>.more s.2.size) hp
        subst hA2 hO
        have HY : Hid (∀ W, Below wr.heap.size wr W → (W.cell? ⟨fb, fo + i * 3, none⟩ = some (.int .i64 fl.burst) ∧ W.cell? ⟨fb, fo + i * 3 + 1, none⟩ = some (.int .i64 fl.rate)) ∧ W.cell? ⟨fb, fo + i * 3 + 2, none⟩ = some (.slice Ap fl.path.length pc) ∧ W.cell? ⟨ab, ao + i, none⟩ = some (.slice Rp l.length rc)) := fun W hW => ⟨⟨(bcell hW _ _ (by omega)).trans y0, (bcell hW _ _ (by omega)).trans y1⟩, (bcell hW _ _ (by omega)).trans y2, (bcell hW _ _ (by omega)).trans ac⟩
        obtain ⟨pl, hpl⟩ : ∃ pl, fl.path.length = pl := ⟨_, rfl⟩
        obtain ⟨ll, hll⟩ : ∃ ll, l.length = ll := ⟨_, rfl⟩
        have k0 := BW.cell (B := wr.heap.size) (show w.heap.size < wr.heap.size by omega) m0
        have k1 := BW.cell (B := wr.heap.size) (show w.heap.size < wr.heap.size by omega) m1
        have k2 := BW.cell (B := wr.heap.size) (show fb < wr.heap.size by omega) y0
        have k3 := BW.cell (B := wr.heap.size) (show fb < wr.heap.size by omega) y1
        have k4 := BW.cell (B := wr.heap.size) (show fb < wr.heap.size by omega) y2
        have k5 := BW.cell (B := wr.heap.size) (show ab < wr.heap.size by omega) ac
        rw [hpl] at HCF HCR k4 HY
        rw [hll] at HCF HCR k5 HY
        clear hgf hgl' hp hN hR hI hP y0 y1 y2 ac hpc hrc hpl hll
        go_wp2_with fail
        clear m0 m1
        refine wp_region_below wr.heap.size wr (Below.refl _ _) (by kernel_rfl) (by kernel_rfl) ?_
        repeat (go_big_quiet_step ((go_at_call 43; exact quiet_below (Nat.le_refl _) (HCF.out _))))
        refine wpQuiet_nil ?_
        clear k0 k1 k2 k3 k4 k5 HCF
        intro s
        have HBS := Lib.hid s.2
        generalize s.1 = w5 at *
        have HB5 := Lib.hid (HBW.out.trans (HBS.out.mono hsz))
        have hs5 := HBS.out.size
        obtain ⟨⟨m0, m1⟩, _⟩ := HL.out w5 HB5.out
        obtain ⟨⟨y0, y1⟩, y2, ac⟩ := HY.out w5 HBS.out
        have k0 := BW.cell (B := w5.heap.size) (show w.heap.size < w5.heap.size by omega) m0
        have k1 := BW.cell (B := w5.heap.size) (show w.heap.size < w5.heap.size by omega) m1
        have k2 := BW.cell (B := w5.heap.size) (show fb < w5.heap.size by omega) y0
        have k3 := BW.cell (B := w5.heap.size) (show fb < w5.heap.size by omega) y1
        have k4 := BW.cell (B := w5.heap.size) (show fb < w5.heap.size by omega) y2
        have k5 := BW.cell (B := w5.heap.size) (show ab < w5.heap.size by omega) ac
        have HCS := Lib.hid (HCR.out w5 HBS.out)
        clear m0 m1 y0 y1 y2 ac HY HCR s
        go_wp2_with fail
        refine wp_region_below w5.heap.size w5 (Below.refl _ _) (by kernel_rfl) (by kernel_rfl) ?_
        repeat (go_big_quiet_step ((go_at_call 44; exact quiet_below (Nat.le_refl _) (HCS.out _))))
        refine wpQuiet_nil ?_
        clear k0 k1 k2 k3 k4 k5 HCS
        intro s
        have HB6 := Lib.hid (HB5.out.trans (s.2.mono HB5.out.size))
        generalize s.1 = w6 at *
        have g1 : (q != q) = false := by simp
        have g2 : (c != c) = false := by simp
        go_wp2_with fail
        go_roundw
        case rel => exact ⟨i + 1, by go_num, by omega, by omega, HB6.out⟩
        case measure => simp [intOf]; omega
      · obtain rfl : i = F := by omega
        clear hN hR hold
        have HC2 : Hid (Calls Try.prog 45 #[.agg #[.slice A1 n.gates.length c1, .slice A2 n.flows.length c2], .slice O tr.length cap] wr (RetS wr (m, es))) := by
          have h1 := HL.out wr HBW.out
          exact send_any45 O cap tr wr (h1.2.1.more (Nat.le_of_lt h1.2.2.2.2)) (h1.2.2.1.more (Nat.le_of_lt h1.2.2.2.2)) HMU.out HSO.out
        rw [HF.out, HTL.out] at HC2
        go_upto_region 11 with (go_at_call 45; refine HC2.out.mono ?_; rintro e w7 ⟨hb7, X, xk, rfl, hxk, hX⟩; have HX := Lib.hid hX; have HB7 := Lib.hid hb7; clear hX hb7 hxk)
        clear HC2 m0 m1
        have HB27 := Lib.hid (HBW.out.trans (HB7.out.mono HBW.out.size))
        have HC3 : Hid (Calls Try.prog 46 #[.agg #[.slice A1 n.gates.length c1, .slice A2 n.flows.length c2], .slice O tr.length cap] w7 (RetS w7 (m, es))) := by
          have h1 := HL.out w7 HB27.out
          exact rsend_any46 O cap tr w7 (h1.2.1.more (Nat.le_of_lt h1.2.2.2.2)) (h1.2.2.1.more (Nat.le_of_lt h1.2.2.2.2)) HMU.out HSO.out
        rw [HF.out, HTL.out] at HC3
        obtain ⟨⟨m0, m1⟩, _⟩ := HL.out w7 HB27.out
        go_upto_region 12 with (go_at_call 46; refine HC3.out.mono ?_; rintro e w8 ⟨hb8, X', xk', rfl, hxk, hX⟩; have HX' := Lib.hid hX; have HB8 := Lib.hid hb8; clear hX hb8 hxk)
        clear HC3 m0 m1
        have HB28 := Lib.hid (HB27.out.trans (HB8.out.mono HB27.out.size))
        have hss : sameL m m = true := by unfold sameL; exact decide_eq_true rfl
        have HS := Lib.hid (same_b (cap := xk) (cap' := xk') (HX.out.below HB8.out (Nat.le_refl _)) HX'.out rfl rfl hss)
        have hee : (es == es) = true := by simp
        clear hss
        go_wp2_with fail
        refine HS.out.mono ?_
        rintro e w9 ⟨rfl, hb9⟩
        have HB9 := Lib.hid (HB28.out.trans (hb9.mono HB28.out.size))
        clear hb9 HS
        have hwk := works_any w9
        go_wp2_with fail
        refine hwk.mono ?_
        rintro e w10 ⟨rfl, hb10⟩
        have HB10 := Lib.hid (HB2.out.trans ((HB9.out.trans (hb10.mono HB9.out.size)).mono HB2.out.size))
        clear hb10 hwk
        go_wp2_with fail
        go_ret
        exact ⟨rfl, HOLD.out _ HB10.out⟩
    · obtain rfl : i = T := by omega
      clear hN hR hold
      have HC2 : Hid (Calls Try.prog 45 #[.agg #[.slice A1 n.gates.length c1, .slice A2 n.flows.length c2], .slice O tr.length cap] wr (RetS wr (m, es))) := by
        have h1 := HL.out wr HBW.out
        exact send_any45 O cap tr wr (h1.2.1.more (Nat.le_of_lt h1.2.2.2.2)) (h1.2.2.1.more (Nat.le_of_lt h1.2.2.2.2)) HMU.out HSO.out
      rw [HF.out, HTL.out] at HC2
      go_upto_region 11 with (go_at_call 45; refine HC2.out.mono ?_; rintro e w7 ⟨hb7, X, xk, rfl, hxk, hX⟩; have HX := Lib.hid hX; have HB7 := Lib.hid hb7; clear hX hb7 hxk)
      clear HC2 m0 m1
      have HB27 := Lib.hid (HBW.out.trans (HB7.out.mono HBW.out.size))
      have HC3 : Hid (Calls Try.prog 46 #[.agg #[.slice A1 n.gates.length c1, .slice A2 n.flows.length c2], .slice O tr.length cap] w7 (RetS w7 (m, es))) := by
        have h1 := HL.out w7 HB27.out
        exact rsend_any46 O cap tr w7 (h1.2.1.more (Nat.le_of_lt h1.2.2.2.2)) (h1.2.2.1.more (Nat.le_of_lt h1.2.2.2.2)) HMU.out HSO.out
      rw [HF.out, HTL.out] at HC3
      obtain ⟨⟨m0, m1⟩, _⟩ := HL.out w7 HB27.out
      go_upto_region 12 with (go_at_call 46; refine HC3.out.mono ?_; rintro e w8 ⟨hb8, X', xk', rfl, hxk, hX⟩; have HX' := Lib.hid hX; have HB8 := Lib.hid hb8; clear hX hb8 hxk)
      clear HC3 m0 m1
      have HB28 := Lib.hid (HB27.out.trans (HB8.out.mono HB27.out.size))
      have hss : sameL m m = true := by unfold sameL; exact decide_eq_true rfl
      have HS := Lib.hid (same_b (cap := xk) (cap' := xk') (HX.out.below HB8.out (Nat.le_refl _)) HX'.out rfl rfl hss)
      have hee : (es == es) = true := by simp
      clear hss
      go_wp2_with fail
      refine HS.out.mono ?_
      rintro e w9 ⟨rfl, hb9⟩
      have HB9 := Lib.hid (HB28.out.trans (hb9.mono HB28.out.size))
      clear hb9 HS
      have hwk := works_any w9
      go_wp2_with fail
      refine hwk.mono ?_
      rintro e w10 ⟨rfl, hb10⟩
      have HB10 := Lib.hid (HB2.out.trans ((HB9.out.trans (hb10.mono HB9.out.size)).mono HB2.out.size))
      clear hb10 hwk
      go_wp2_with fail
      go_ret
      exact ⟨rfl, HOLD.out _ HB10.out⟩
end
theorem busSends_row (A1 A2 : Option Addr) (c1 c2 : Nat) (n : MNet) (O : Option Addr) (cap : Nat) (tr : List (List Int)) (w : World) (h : NetA w w.heap.size A1 A2 n) (_ : tr.length ≤ cap) (_ : cap ≤ maxLen) (hT : RowsT w w.heap.size O tr) (_ : True) :
    Calls Try.prog 13 #[.agg #[.slice A1 n.gates.length c1, .slice A2 n.flows.length c2], .slice O tr.length cap] w fun e w' => e = .returned (.bool true) ∧ Below w.heap.size w w' := busSends_any O cap tr w h hT
end Go.Proofs.Ytlbbhlkbhegegaa
