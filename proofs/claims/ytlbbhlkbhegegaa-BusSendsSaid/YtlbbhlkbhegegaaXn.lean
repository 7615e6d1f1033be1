/- Walks: the sort of packets: symMerge and the whole. -/
import Derived.Test.YtlbbhlkbhegegaaXm
import Derived.Deep.DeepCutAuto
/- Walks: symMerge of packets: the middle stands in the first half. Printed by gen_xg4.py. -/
namespace Go.Proofs.Ytlbbhlkbhegegaa
open Go.RowKit

theorem mrg_nil_left {B : List MPkt} (hB : SrtF B) : Mrg [] B B := ⟨hB, .refl _⟩
theorem mrg_nil_right {A : List MPkt} (hA : SrtF A) : Mrg A [] A := ⟨hA, by rw [List.append_nil]; exact .refl _⟩
/-- the cut of a merge -/
structure CutM (X A B Y : List MPkt) (a m b mid s t : Nat) (A1 A2 B1 B2 : List MPkt) : Prop where
  ea : A = A1 ++ A2
  eb : B = B1 ++ B2
  l1 : a + A1.length = s
  l2 : s + A2.length = m
  l3 : m + B1.length = t
  l4 : t + B2.length = b
  mid : mid + A2.length = t
  h1 : ∀ x ∈ A2, ∀ y ∈ B1, y.flow < x.flow
  h2 : ∀ x ∈ A1, ∀ y ∈ B2, LeF x y
def SymP (d N cap fu : Nat) : Prop := ∀ (X A B Y : List MPkt) (a m b : Nat) (w : World), A.length + B.length ≤ fu → OwnP w d (X ++ A ++ B ++ Y) → (X ++ A ++ B ++ Y).length = N → X.length = a → a + A.length = m → m + B.length = b → 0 < A.length → 0 < B.length → SrtF A → SrtF B → Calls Try.prog 133 #[.slice (some ⟨d, 0, none⟩) N cap, .int .i64 (a : Int), .int .i64 (m : Int), .int .i64 (b : Int), .func (.func 113) #[] #[]] w fun e w' => e = .returned (.tuple #[]) ∧ (∃ S, Mrg A B S ∧ OwnP w' d (X ++ S ++ Y)) ∧ OnlyB d w w'
section
variable {n0 d : Nat}
set_option maxRecDepth 100000 in
set_option maxHeartbeats 16000000 in
theorem sym_lo (N cap fu : Nat) (hd : n0 ≤ d) (hn : N ≤ 1000000) (hrec : SymP d N cap fu) (X A B Y : List MPkt) (a m b : Nat) (w : World) (hfu : A.length + B.length ≤ fu + 1) (ho : OwnP w d (X ++ A ++ B ++ Y)) (hN : (X ++ A ++ B ++ Y).length = N) (ha : X.length = a) (hm : a + A.length = m) (hb : m + B.length = b) (hA0 : 0 < A.length) (hB0 : 0 < B.length) (hA : SrtF A) (hB : SrtF B) (_hone : ¬ A.length = 1) (hlast : ¬ B.length = 1) (hside : (a + b) / 2 < m) :
    Calls Try.prog 133 #[.slice (some ⟨d, 0, none⟩) N cap, .int .i64 (a : Int), .int .i64 (m : Int), .int .i64 (b : Int), .func (.func 113) #[] #[]] w fun e w' => e = .returned (.tuple #[]) ∧ (∃ S, Mrg A B S ∧ OwnP w' d (X ++ S ++ Y)) ∧ OnlyB d w w' := by
    have HREC : Hid (∀ (X A B Y : List MPkt) (a m b : Nat) (w : World), A.length + B.length ≤ fu → OwnP w d (X ++ A ++ B ++ Y) → (X ++ A ++ B ++ Y).length = N → X.length = a → a + A.length = m → m + B.length = b → 0 < A.length → 0 < B.length → SrtF A → SrtF B → Calls Try.prog 133 #[.slice (some ⟨d, 0, none⟩) N cap, .int .i64 (a : Int), .int .i64 (m : Int), .int .i64 (b : Int), .func (.func 113) #[] #[]] w fun e w' => e = .returned (.tuple #[]) ∧ (∃ S, Mrg A B S ∧ OwnP w' d (X ++ S ++ Y)) ∧ OnlyB d w w') := fun X A B Y a m b w h1 h2 h3 h4 h5 h6 h7 h8 h9 h10 => hrec X A B Y a m b w h1 h2 h3 h4 h5 h6 h7 h8 h9 h10
    have HROT : Hid (∀ (X U V Y : List MPkt) (a m b : Nat) (w : World), OwnP w d (X ++ U ++ V ++ Y) → (X ++ U ++ V ++ Y).length = N → X.length = a → a + U.length = m → m + V.length = b → 0 < U.length → 0 < V.length → Calls Try.prog 135 #[.slice (some ⟨d, 0, none⟩) N cap, .int .i64 (a : Int), .int .i64 (m : Int), .int .i64 (b : Int), .func (.func 113) #[] #[]] w fun e w' => e = .returned (.tuple #[]) ∧ OwnP w' d (X ++ V ++ U ++ Y) ∧ OnlyB d w w') := fun X U V Y a m b w h1 h2 h3 h4 h5 h6 h7 => rotate_any X U V Y N a m b cap _ w h1 hd h2 hn h3 h4 h5 h6 h7
    clear hrec
    have HBR : Hid (OnlyB d w w) := OnlyB.refl _ _
    have HDW : Hid (n0 ≤ w.heap.size) := by have := ho.lt; show n0 ≤ _; omega
    have HDN : Hid (∀ W : World, OnlyB d w W → n0 ≤ W.heap.size) := fun W hW => Nat.le_trans HDW.out hW.size
    have hbN : b ≤ N := by rw [← hN]; simp; omega
    have HXL := Lib.hid ha
    have HLL : Hid (A.length = m - a ∧ B.length = b - m) := by constructor <;> omega
    have HSS := Lib.hid (And.intro hA hB)
    have HNN := Lib.hid hN
    have HFU := Lib.hid hfu
    have HGA : Hid (∀ q (hq : q < A.length), (X ++ A ++ B ++ Y)[a + q]? = some A[q]) := fun q hq => get_left hq ha
    have HGB : Hid (∀ q (hq : q < B.length), (X ++ A ++ B ++ Y)[m + q]? = some B[q]) := fun q hq => get_right hq (by omega)
    obtain ⟨G, hG⟩ : ∃ G, X ++ A ++ B ++ Y = G := ⟨_, rfl⟩
    rw [hG] at ho HGA HGB
    have HGG := Lib.hid hG
    have HO := Lib.hid ho
    have ham : a + 2 ≤ m := by omega
    have hmb : m + 2 ≤ b := by omega
    have g0 : (((m : Int) - (a : Int)) == 1) = false := by rw [beq_eq_false_iff_ne]; omega
    have g1 : (((b : Int) - (m : Int)) == 1) = false := by rw [beq_eq_false_iff_ne]; omega
    obtain ⟨mid, hmid⟩ : ∃ mid, (a + b) / 2 = mid := ⟨_, rfl⟩
    obtain ⟨nn, hnn⟩ : ∃ nn, mid + m = nn := ⟨_, rfl⟩
    obtain ⟨p, hp⟩ : ∃ p, p + 1 = nn := ⟨nn - 1, by omega⟩
    obtain ⟨s0, r0, hsr⟩ : ∃ s0 r0 : Nat, (mid < m ∧ s0 + b = nn ∧ r0 = mid) ∨ (m ≤ mid ∧ s0 = a ∧ r0 = m) := by
      rcases Nat.lt_or_ge mid m with h | h
      · exact ⟨nn - b, mid, .inl ⟨h, by omega, rfl⟩⟩
      · exact ⟨a, m, .inr ⟨h, rfl, rfl⟩⟩
    have HSR := Lib.hid hsr
    have c1 : ((mid : Int) + (m : Int)) = (nn : Int) := by omega
    have c2 : ((nn : Int) - 1) = (p : Int) := by omega
    have hsb : a ≤ s0 ∧ s0 ≤ r0 ∧ r0 ≤ m ∧ r0 ≤ mid := by omega
    have hmd : a + 1 ≤ mid ∧ mid + 1 ≤ b := by omega
    have HEQ : Hid ((a + b) / 2 = mid ∧ mid + m = nn ∧ p + 1 = nn) := ⟨hmid, hnn, hp⟩
    have HA0 : Hid (0 < A.length ∧ 0 < B.length) := ⟨hA0, hB0⟩
    have h : mid < m := by omega
    clear ho hN ha hm hb hG hA hB hA0 hB0 _hone hlast hfu hsr hmid hnn hp hside
    have c0 : (((a : Int) + (b : Int)) / 2) = (mid : Int) := by have := HEQ.out; omega
    go_enter Try.func133, Try.ntmps133
    have g2 : decide ((m : Int) > (mid : Int)) = true := decide_eq_true (by omega)
    have c3 : ((nn : Int) - (b : Int)) = (s0 : Int) := by have := HSR.out; omega
    have HE1 : Hid (s0 = s0) := rfl
    have HE2 : Hid (r0 = mid) := by have := HSR.out; show _ = _; omega
    go_wp2_with fail
    clear c0 c1 c2 c3 g2
    go_loopw [20, 21] (fun vi vj wr => ∃ i j : Nat, vi = .int .i64 i ∧ vj = .int .i64 j ∧ (s0 ≤ i ∧ i ≤ j ∧ j ≤ r0) ∧ Hid ((∀ c, s0 ≤ c → c < i → ∀ x y, A[c - a]? = some x → B[p - c - m]? = some y → LeF x y) ∧ ∀ c, j ≤ c → c < r0 → ∀ x y, A[c - a]? = some x → B[p - c - m]? = some y → y.flow < x.flow) ∧ Hid (OwnP wr d G) ∧ Hid (OnlyB d w wr)) (fun vi vj _ => (intOf vj).toNat - (intOf vi).toNat)
    case atStart => exact ⟨s0, r0, by first | rfl | rw [HE1.out], by rw [HE2.out], ⟨Nat.le_refl _, hsb.2.1, Nat.le_refl _⟩, ⟨fun c h1 h2 => by omega, fun c h1 h2 => by omega⟩, HO, HBR⟩
    case round =>
      clear HO HBR
      obtain ⟨i, j, rfl, rfl, hij, HF, HZ, HB⟩ := hrel
      rename World => wr
      by_cases hlt : i < j
      · obtain ⟨h, hh⟩ : ∃ h, (i + j) / 2 = h := ⟨_, rfl⟩
        have hhb : i ≤ h ∧ h < j := by omega
        obtain ⟨k, hk⟩ : ∃ k, p - h = k := ⟨_, rfl⟩
        have hkb : m ≤ k ∧ k < b ∧ a ≤ h ∧ h < m ∧ k + h = p := by have := HSR.out; have := HEQ.out; omega
        obtain ⟨x, hxq⟩ : ∃ x, A[h - a]? = some x := ⟨_, List.getElem?_eq_getElem (show h - a < A.length by rw [HLL.out.1]; omega)⟩
        obtain ⟨y, hyq⟩ : ∃ y, B[k - m]? = some y := ⟨_, List.getElem?_eq_getElem (show k - m < B.length by rw [HLL.out.2]; omega)⟩
        have hx : G[h]? = some x := by
          have := HGA.out (h - a) (by rw [HLL.out.1]; omega)
          rw [show a + (h - a) = h by omega] at this
          rw [this, ← hxq, List.getElem?_eq_getElem]
        have hy : G[k]? = some y := by
          have := HGB.out (k - m) (by rw [HLL.out.2]; omega)
          rw [show m + (k - m) = k by omega] at this
          rw [this, ← hyq, List.getElem?_eq_getElem]
        have HXQ := Lib.hid hxq
        have HYQ := Lib.hid hyq
        have c4 : (((i : Int) + (j : Int)) / 2) = (h : Int) := by omega
        have HHH := Lib.hid c4
        have HKK := Lib.hid hk
        have hhN : h < N := by omega
        have hkN : k < N := by omega
        have c3 : ((p : Int) - (h : Int)) = (k : Int) := by omega
        clear hxq hyq hk
        obtain ⟨p0, p1, p2, p3⟩ := HZ.out.at_ hy
        obtain ⟨q0, q1, q2, q3⟩ := HZ.out.at_ hx
        have hdz := HZ.out.lt
        have m0 := BW.cell (B := wr.heap.size) hdz p0
        have m1 := BW.cell (B := wr.heap.size) hdz p1
        have m2 := BW.cell (B := wr.heap.size) hdz p2
        have m3 := BW.cell (B := wr.heap.size) hdz p3
        have m4 := BW.cell (B := wr.heap.size) hdz q0
        have m5 := BW.cell (B := wr.heap.size) hdz q1
        have m6 := BW.cell (B := wr.heap.size) hdz q2
        have m7 := BW.cell (B := wr.heap.size) hdz q3
        obtain ⟨v, hv⟩ : ∃ v, cmpV y.flow x.flow = v := ⟨_, rfl⟩
        have hvn := cmpV_neg y.flow x.flow
        rw [hv] at hvn
        have HVN := Lib.hid hvn
        have HC : Hid (∀ s : BW wr.heap.size wr, Calls Try.prog 113 #[pkV y, pkV x] s.1 fun e w' => e = .returned (.int .i64 v) ∧ Below s.1.heap.size s.1 w') := fun s => cmpp_any y x s.1 hv
        clear hv hvn p0 p1 p2 p3 q0 q1 q2 q3 hx hy
        rcases hneg : decide (v < 0)
        all_goals
          have HNEG := Lib.hid hneg
          go_upto_region 35 with fail
          refine wp_region_below wr.heap.size wr (Below.refl _ _) (by kernel_rfl) (by kernel_rfl) ?_
          repeat (go_big_quiet_step ((go_at_call 113; exact quiet_below (Nat.le_refl _) (HC.out _))))
          refine wpQuiet_nil ?_
          clear m0 m1 m2 m3 m4 m5 m6 m7 HC
          intro s
          have HZ5 : Hid (OwnP s.1 d G) := HZ.out.below s.2 hdz
          have HB5 : Hid (OnlyB d w s.1) := HB.out.trans (OnlyB.of s.2)
          generalize s.1 = w5 at *
          go_wp2_with fail
        · -- ours is not behind: start := h + 1
          have HF2 : Hid ((∀ c, s0 ≤ c → c < h + 1 → ∀ x y, A[c - a]? = some x → B[p - c - m]? = some y → LeF x y) ∧ ∀ c, j ≤ c → c < r0 → ∀ x y, A[c - a]? = some x → B[p - c - m]? = some y → y.flow < x.flow) := by
            refine ⟨fun c hc1 hc2 u u2 hu hu2 => ?_, HF.out.2⟩
            have k1 := srt_le HSS.out.1 hu HXQ.out (by omega)
            have k2 := srt_le HSS.out.2 HYQ.out hu2 (by omega)
            have k3 : ¬ y.flow < x.flow := fun hl => by have := HVN.out.2 hl; have := of_decide_eq_false HNEG.out; omega
            unfold LeF at k1 k2 ⊢
            omega
          (try rw [HHH.out])
          go_roundw
          case rel => exact ⟨h + 1, j, by go_num, rfl, by omega, HF2, HZ5, HB5⟩
          case measure => simp [intOf]; omega
        · have HF2 : Hid ((∀ c, s0 ≤ c → c < i → ∀ x y, A[c - a]? = some x → B[p - c - m]? = some y → LeF x y) ∧ ∀ c, h ≤ c → c < r0 → ∀ x y, A[c - a]? = some x → B[p - c - m]? = some y → y.flow < x.flow) := by
            refine ⟨HF.out.1, fun c hc1 hc2 u u2 hu hu2 => ?_⟩
            have k1 := srt_le HSS.out.1 HXQ.out hu (by omega)
            have k2 := srt_le HSS.out.2 hu2 HYQ.out (by omega)
            have k3 : y.flow < x.flow := HVN.out.1 (of_decide_eq_true HNEG.out)
            unfold LeF at k1 k2
            omega
          (try rw [HHH.out])
          go_roundw
          case rel => exact ⟨i, h, rfl, rfl, by omega, HF2, HZ5, HB5⟩
          case measure => simp [intOf]; omega
      · obtain rfl : i = j := by omega
        obtain ⟨t, ht⟩ : ∃ t, t + i = nn := ⟨nn - i, by have := HSR.out; have := HEQ.out; omega⟩
        have htb : m ≤ t ∧ t ≤ b := by have := HSR.out; have := HEQ.out; omega
        have hib : a ≤ i ∧ i ≤ m ∧ i ≤ mid ∧ mid ≤ t := by have := HSR.out; have := HEQ.out; omega
        have HCUT : Hid (∃ A1 A2 B1 B2, CutM X A B Y a m b mid i t A1 A2 B1 B2) := by
          have hl := HLL.out
          have hc := cut_ok (s := i - a) (t := t - m) HSS.out.1 HSS.out.2 (by omega) (by omega) (fun h1 h2 => by
            have e1 : A.getD (i - a) dPkt = A[i - a] := by rw [List.getD_eq_getElem?_getD, List.getElem?_eq_getElem h1]; rfl
            have h3 : t - m - 1 < B.length := by omega
            have e2 : B.getD (t - m - 1) dPkt = B[t - m - 1] := by rw [List.getD_eq_getElem?_getD, List.getElem?_eq_getElem h3]; rfl
            rw [e1, e2]
            refine HF.out.2 i (Nat.le_refl _) (by have := HSR.out; have := HEQ.out; omega) _ _ (List.getElem?_eq_getElem h1) ?_
            rw [show p - i - m = t - m - 1 by have := HEQ.out; omega]
            exact List.getElem?_eq_getElem h3) (fun h1 h2 => by
            have h3 : i - a - 1 < A.length := by omega
            have e1 : A.getD (i - a - 1) dPkt = A[i - a - 1] := by rw [List.getD_eq_getElem?_getD, List.getElem?_eq_getElem h3]; rfl
            have e2 : B.getD (t - m) dPkt = B[t - m] := by rw [List.getD_eq_getElem?_getD, List.getElem?_eq_getElem h2]; rfl
            rw [e1, e2]
            refine HF.out.1 (i - 1) (by have := HSR.out; have := HEQ.out; omega) (by omega) _ _ ?_ ?_
            · rw [show i - 1 - a = i - a - 1 by omega]; exact List.getElem?_eq_getElem h3
            · rw [show p - (i - 1) - m = t - m by have := HEQ.out; omega]; exact List.getElem?_eq_getElem h2)
          exact ⟨A.take (i - a), A.drop (i - a), B.take (t - m), B.drop (t - m), (List.take_append_drop _ _).symm, (List.take_append_drop _ _).symm, by rw [List.length_take]; omega, by rw [List.length_drop]; omega, by rw [List.length_take]; omega, by rw [List.length_drop]; omega, by rw [List.length_drop]; have := HEQ.out; omega, hc.1, hc.2⟩
        obtain ⟨A1, A2, B1, B2, hcm⟩ := HCUT.out
        have HCM := Lib.hid hcm
        have HZ0 : Hid (OwnP wr d ((X ++ A1) ++ A2 ++ B1 ++ (B2 ++ Y))) := by
          have h := HZ.out
          rw [← HGG.out, hcm.ea, hcm.eb] at h
          show OwnP _ _ _
          simpa using h
        have HNL : Hid (((X ++ A1) ++ A2 ++ B1 ++ (B2 ++ Y)).length = N ∧ (X ++ A1).length = i) := by
          constructor
          · rw [← HNN.out, hcm.ea, hcm.eb]; simp
          · rw [List.length_append, HXL.out]; exact hcm.l1
        have HBN : Hid (OnlyB d w wr) := HB
        have c4 : ((nn : Int) - (i : Int)) = (t : Int) := by omega
        have HEN := Lib.hid ht
        clear hcm HCUT HF HZ HB HGA HGB HSR ht
        have HL1 : Hid (A1.length = i - a ∧ A2.length = m - i ∧ B1.length = t - m ∧ B2.length = b - t ∧ t - m = mid - i) := by
          have h1 := HCM.out.l1; have h2 := HCM.out.l2; have h3 := HCM.out.l3; have h4 := HCM.out.l4; have h5 := HCM.out.mid
          refine ⟨?_, ?_, ?_, ?_, ?_⟩ <;> omega
        have HSA : Hid (SrtF A1 ∧ SrtF A2 ∧ SrtF B1 ∧ SrtF B2) := by
          have h1 := HSS.out
          rw [HCM.out.ea, HCM.out.eb, srt_app, srt_app] at h1
          exact ⟨h1.1.1, h1.1.2.1, h1.2.1, h1.2.2.1⟩
        go_upto_region 39 with fail
        obtain ⟨q, hq⟩ : ∃ q, decide (i < m ∧ m < t) = q := ⟨_, rfl⟩
        have HQ := Lib.hid hq
        clear hq
        go_cut [185] (fun v wx => v = .bool q ∧ wx = wr)
        case first =>
          by_cases q1 : i < m
          · have g5 : decide ((i : Int) < (m : Int)) = true := decide_eq_true (by omega)
            by_cases q2 : m < t
            · have g6 : decide ((m : Int) < (t : Int)) = true := decide_eq_true (by omega)
              have HQ2 : Hid (q = true) := by show q = true; rw [← HQ.out]; exact decide_eq_true ⟨q1, q2⟩
              go_wp2_with fail
              go_meet
              exact ⟨by rw [HQ2.out], rfl⟩
            · have g6 : decide ((m : Int) < (t : Int)) = false := decide_eq_false (by omega)
              have HQ2 : Hid (q = false) := by show q = false; rw [← HQ.out]; exact decide_eq_false (fun h => q2 h.2)
              go_wp2_with fail
              go_meet
              exact ⟨by rw [HQ2.out], rfl⟩
          · have g5 : decide ((i : Int) < (m : Int)) = false := decide_eq_false (by omega)
            have HQ2 : Hid (q = false) := by show q = false; rw [← HQ.out]; exact decide_eq_false (fun h => q1 h.1)
            go_wp2_with fail
            go_meet
            exact ⟨by rw [HQ2.out], rfl⟩
        case rest =>
          obtain ⟨rfl, hwc⟩ := hcut
          rename World => wc
          subst hwc
          go_upto_if 185 with fail
          go_cut [] (fun wx => Hid (OwnP wx d ((X ++ A1) ++ B1 ++ A2 ++ (B2 ++ Y))) ∧ Hid (OnlyB d w wx))
          case first =>
            rcases q
            · have HO6 : Hid (OwnP wc d ((X ++ A1) ++ B1 ++ A2 ++ (B2 ++ Y))) := by
                have h := HZ0.out
                have hl := HL1.out
                have hq := of_decide_eq_false HQ.out
                show OwnP _ _ _
                rcases Nat.lt_or_ge i m with h1 | h1
                · obtain rfl : B1 = [] := List.eq_nil_of_length_eq_zero (by omega)
                  simpa using h
                · obtain rfl : A2 = [] := List.eq_nil_of_length_eq_zero (by omega)
                  simpa using h
              go_wp2_with fail
              go_meet
              exact ⟨HO6, HBN⟩
            · have HC : Hid (Calls Try.prog 135 #[.slice (some ⟨d, 0, none⟩) N cap, .int .i64 (i : Int), .int .i64 (m : Int), .int .i64 (t : Int), .func (.func 113) #[] #[]] wc fun e w' => e = .returned (.tuple #[]) ∧ OwnP w' d ((X ++ A1) ++ B1 ++ A2 ++ (B2 ++ Y)) ∧ OnlyB d wc w') := by
                have hq := of_decide_eq_true HQ.out
                exact HROT.out (X ++ A1) A2 B1 (B2 ++ Y) i m t wc HZ0.out HNL.out.1 HNL.out.2 HCM.out.l2 HCM.out.l3 (by rw [HL1.out.2.1]; omega) (by rw [HL1.out.2.2.1]; omega)
              go_wp2_with (go_at_call 135; refine HC.out.mono ?_; rintro e w6 ⟨rfl, ho6, hb6⟩; have HO6 := Lib.hid ho6; have HB6 : Hid (OnlyB d w w6) := HBN.out.trans hb6; clear ho6 hb6)
              go_meet
              exact ⟨HO6, HB6⟩
          case rest =>
            clear HZ0 HBN
            obtain ⟨HO6, HB6⟩ := hcut
            rename World => w6
            go_upto_region 41 with fail
            by_cases q5 : a < i ∧ i < mid
            · have g7 : decide ((a : Int) < (i : Int)) = true := decide_eq_true (by omega)
              have g8 : decide ((i : Int) < (mid : Int)) = true := decide_eq_true (by omega)
              have HC2 : Hid (Calls Try.prog 133 #[.slice (some ⟨d, 0, none⟩) N cap, .int .i64 (a : Int), .int .i64 (i : Int), .int .i64 (mid : Int), .func (.func 113) #[] #[]] w6 fun e w' => e = .returned (.tuple #[]) ∧ (∃ S, Mrg A1 B1 S ∧ OwnP w' d (X ++ S ++ (A2 ++ B2 ++ Y))) ∧ OnlyB d w6 w') := by
                have hl := HL1.out
                have hx := HXL.out
                have e1 : (X ++ A1) ++ B1 ++ A2 ++ (B2 ++ Y) = X ++ A1 ++ B1 ++ (A2 ++ B2 ++ Y) := by simp
                have ho := HO6.out
                rw [e1] at ho
                refine HREC.out X A1 B1 (A2 ++ B2 ++ Y) a i mid w6 (by have := HFU.out; have := HLL.out; omega) ho ?_ hx (by omega) (by omega) (by omega) (by omega) HSA.out.1 HSA.out.2.2.1
                have hn := HNL.out.1
                simp only [List.length_append] at hn ⊢
                omega
              go_upto_region 43 with (go_at_call 133; refine HC2.out.mono ?_; rintro e w7 ⟨rfl, ⟨S1, hm1, ho7⟩, hb7⟩; have HM1 := Lib.hid hm1; have HO7 := Lib.hid ho7; have HB7 : Hid (OnlyB d w w7) := HB6.out.trans hb7; clear hm1 ho7 hb7)
              all_goals
                have HMS : Hid (∀ S2, Mrg A2 B2 S2 → Mrg A B (S1 ++ S2)) := fun S2 h2 => by
                  have h := HCM.out
                  have h1 := HSS.out
                  rw [h.ea, h.eb] at h1 ⊢
                  exact mrg_step h1.1 h1.2 h.h1 h.h2 HM1.out h2
                by_cases q3 : mid < t ∧ t < b
                · have g9 : decide ((mid : Int) < (t : Int)) = true := decide_eq_true (by omega)
                  have g10 : decide ((t : Int) < (b : Int)) = true := decide_eq_true (by omega)
                  have HC3 : Hid (Calls Try.prog 133 #[.slice (some ⟨d, 0, none⟩) N cap, .int .i64 (mid : Int), .int .i64 (t : Int), .int .i64 (b : Int), .func (.func 113) #[] #[]] w7 fun e w' => e = .returned (.tuple #[]) ∧ (∃ S, Mrg A2 B2 S ∧ OwnP w' d ((X ++ S1) ++ S ++ Y)) ∧ OnlyB d w7 w') := by
                    have hl := HL1.out
                    have hs := HM1.out.2.len
                    rw [List.length_append] at hs
                    have hx := HXL.out
                    have e1 : X ++ S1 ++ (A2 ++ B2 ++ Y) = (X ++ S1) ++ A2 ++ B2 ++ Y := by simp
                    have ho := HO7.out
                    rw [e1] at ho
                    refine HREC.out (X ++ S1) A2 B2 Y mid t b w7 (by have := HFU.out; have := HLL.out; omega) ho ?_ (by rw [List.length_append]; omega) (by omega) (by omega) (by omega) (by omega) HSA.out.2.1 HSA.out.2.2.2
                    have hn := HNL.out.1
                    simp only [List.length_append] at hn ⊢
                    omega
                  go_wp2_with (go_at_call 133; refine HC3.out.mono ?_; rintro e w8 ⟨rfl, ⟨S2, hm2, ho8⟩, hb8⟩; have HM2 := Lib.hid hm2; have HO8 : Hid (OwnP w8 d (X ++ (S1 ++ S2) ++ Y)) := (by show OwnP _ _ _; simpa using ho8); have HB8 : Hid (OnlyB d w w8) := HB7.out.trans hb8; clear hm2 ho8 hb8)
                  all_goals
                    go_end0
                    exact ⟨rfl, ⟨S1 ++ S2, HMS.out S2 HM2.out, HO8.out⟩, HB8.out⟩
                · rcases Nat.lt_or_ge mid t with q4 | q4
                  · have g9 : decide ((mid : Int) < (t : Int)) = true := decide_eq_true (by omega)
                    have g10 : decide ((t : Int) < (b : Int)) = false := decide_eq_false (by omega)
                    obtain ⟨S2, hS2⟩ : ∃ S2, A2 ++ B2 = S2 := ⟨_, rfl⟩
                    have HM2 : Hid (Mrg A2 B2 S2) := by
                      show Mrg _ _ _
                      have hl := HL1.out
                      rw [← hS2]
                      rcases Nat.lt_or_ge mid t with h1 | h1
                      · obtain rfl : B2 = [] := List.eq_nil_of_length_eq_zero (by omega)
                        rw [List.append_nil]; exact mrg_nil_right HSA.out.2.1
                      · obtain rfl : A2 = [] := List.eq_nil_of_length_eq_zero (by omega)
                        exact mrg_nil_left HSA.out.2.2.2
                    have HO8 : Hid (OwnP w7 d (X ++ (S1 ++ S2) ++ Y)) := by
                      show OwnP _ _ _
                      have h := HO7.out
                      rw [← hS2]
                      simpa using h
                    have HB8 := HB7
                    clear hS2
                    go_wp2_with fail
                    all_goals
                      go_end0
                      exact ⟨rfl, ⟨S1 ++ S2, HMS.out S2 HM2.out, HO8.out⟩, HB8.out⟩
                  · have g9 : decide ((mid : Int) < (t : Int)) = false := decide_eq_false (by omega)
                    obtain ⟨S2, hS2⟩ : ∃ S2, A2 ++ B2 = S2 := ⟨_, rfl⟩
                    have HM2 : Hid (Mrg A2 B2 S2) := by
                      show Mrg _ _ _
                      have hl := HL1.out
                      rw [← hS2]
                      rcases Nat.lt_or_ge mid t with h1 | h1
                      · obtain rfl : B2 = [] := List.eq_nil_of_length_eq_zero (by omega)
                        rw [List.append_nil]; exact mrg_nil_right HSA.out.2.1
                      · obtain rfl : A2 = [] := List.eq_nil_of_length_eq_zero (by omega)
                        exact mrg_nil_left HSA.out.2.2.2
                    have HO8 : Hid (OwnP w7 d (X ++ (S1 ++ S2) ++ Y)) := by
                      show OwnP _ _ _
                      have h := HO7.out
                      rw [← hS2]
                      simpa using h
                    have HB8 := HB7
                    clear hS2
                    go_wp2_with fail
                    all_goals
                      go_end0
                      exact ⟨rfl, ⟨S1 ++ S2, HMS.out S2 HM2.out, HO8.out⟩, HB8.out⟩
            · rcases Nat.lt_or_ge a i with q6 | q6
              · have g7 : decide ((a : Int) < (i : Int)) = true := decide_eq_true (by omega)
                have g8 : decide ((i : Int) < (mid : Int)) = false := decide_eq_false (by omega)
                obtain ⟨S1, hS1⟩ : ∃ S1, A1 ++ B1 = S1 := ⟨_, rfl⟩
                have HM1 : Hid (Mrg A1 B1 S1) := by
                  show Mrg _ _ _
                  have hl := HL1.out
                  rw [← hS1]
                  rcases Nat.lt_or_ge a i with h1 | h1
                  · obtain rfl : B1 = [] := List.eq_nil_of_length_eq_zero (by omega)
                    rw [List.append_nil]; exact mrg_nil_right HSA.out.1
                  · obtain rfl : A1 = [] := List.eq_nil_of_length_eq_zero (by omega)
                    exact mrg_nil_left HSA.out.2.2.1
                have HO7 : Hid (OwnP w6 d (X ++ S1 ++ (A2 ++ B2 ++ Y))) := by
                  show OwnP _ _ _
                  have h := HO6.out
                  rw [← hS1]
                  simpa using h
                have HB7 := HB6
                clear hS1
                have HMS : Hid (∀ S2, Mrg A2 B2 S2 → Mrg A B (S1 ++ S2)) := fun S2 h2 => by
                  have h := HCM.out
                  have h1 := HSS.out
                  rw [h.ea, h.eb] at h1 ⊢
                  exact mrg_step h1.1 h1.2 h.h1 h.h2 HM1.out h2
                go_upto_region 43 with fail
                all_goals
                  rename World => w7
                  by_cases q3 : mid < t ∧ t < b
                  · have g9 : decide ((mid : Int) < (t : Int)) = true := decide_eq_true (by omega)
                    have g10 : decide ((t : Int) < (b : Int)) = true := decide_eq_true (by omega)
                    have HC3 : Hid (Calls Try.prog 133 #[.slice (some ⟨d, 0, none⟩) N cap, .int .i64 (mid : Int), .int .i64 (t : Int), .int .i64 (b : Int), .func (.func 113) #[] #[]] w7 fun e w' => e = .returned (.tuple #[]) ∧ (∃ S, Mrg A2 B2 S ∧ OwnP w' d ((X ++ S1) ++ S ++ Y)) ∧ OnlyB d w7 w') := by
                      have hl := HL1.out
                      have hs := HM1.out.2.len
                      rw [List.length_append] at hs
                      have hx := HXL.out
                      have e1 : X ++ S1 ++ (A2 ++ B2 ++ Y) = (X ++ S1) ++ A2 ++ B2 ++ Y := by simp
                      have ho := HO7.out
                      rw [e1] at ho
                      refine HREC.out (X ++ S1) A2 B2 Y mid t b w7 (by have := HFU.out; have := HLL.out; omega) ho ?_ (by rw [List.length_append]; omega) (by omega) (by omega) (by omega) (by omega) HSA.out.2.1 HSA.out.2.2.2
                      have hn := HNL.out.1
                      simp only [List.length_append] at hn ⊢
                      omega
                    go_wp2_with (go_at_call 133; refine HC3.out.mono ?_; rintro e w8 ⟨rfl, ⟨S2, hm2, ho8⟩, hb8⟩; have HM2 := Lib.hid hm2; have HO8 : Hid (OwnP w8 d (X ++ (S1 ++ S2) ++ Y)) := (by show OwnP _ _ _; simpa using ho8); have HB8 : Hid (OnlyB d w w8) := HB7.out.trans hb8; clear hm2 ho8 hb8)
                    all_goals
                      go_end0
                      exact ⟨rfl, ⟨S1 ++ S2, HMS.out S2 HM2.out, HO8.out⟩, HB8.out⟩
                  · rcases Nat.lt_or_ge mid t with q4 | q4
                    · have g9 : decide ((mid : Int) < (t : Int)) = true := decide_eq_true (by omega)
                      have g10 : decide ((t : Int) < (b : Int)) = false := decide_eq_false (by omega)
                      obtain ⟨S2, hS2⟩ : ∃ S2, A2 ++ B2 = S2 := ⟨_, rfl⟩
                      have HM2 : Hid (Mrg A2 B2 S2) := by
                        show Mrg _ _ _
                        have hl := HL1.out
                        rw [← hS2]
                        rcases Nat.lt_or_ge mid t with h1 | h1
                        · obtain rfl : B2 = [] := List.eq_nil_of_length_eq_zero (by omega)
                          rw [List.append_nil]; exact mrg_nil_right HSA.out.2.1
                        · obtain rfl : A2 = [] := List.eq_nil_of_length_eq_zero (by omega)
                          exact mrg_nil_left HSA.out.2.2.2
                      have HO8 : Hid (OwnP w7 d (X ++ (S1 ++ S2) ++ Y)) := by
                        show OwnP _ _ _
                        have h := HO7.out
                        rw [← hS2]
                        simpa using h
                      have HB8 := HB7
                      clear hS2
                      go_wp2_with fail
                      all_goals
                        go_end0
                        exact ⟨rfl, ⟨S1 ++ S2, HMS.out S2 HM2.out, HO8.out⟩, HB8.out⟩
                    · have g9 : decide ((mid : Int) < (t : Int)) = false := decide_eq_false (by omega)
                      obtain ⟨S2, hS2⟩ : ∃ S2, A2 ++ B2 = S2 := ⟨_, rfl⟩
                      have HM2 : Hid (Mrg A2 B2 S2) := by
                        show Mrg _ _ _
                        have hl := HL1.out
                        rw [← hS2]
                        rcases Nat.lt_or_ge mid t with h1 | h1
                        · obtain rfl : B2 = [] := List.eq_nil_of_length_eq_zero (by omega)
                          rw [List.append_nil]; exact mrg_nil_right HSA.out.2.1
                        · obtain rfl : A2 = [] := List.eq_nil_of_length_eq_zero (by omega)
                          exact mrg_nil_left HSA.out.2.2.2
                      have HO8 : Hid (OwnP w7 d (X ++ (S1 ++ S2) ++ Y)) := by
                        show OwnP _ _ _
                        have h := HO7.out
                        rw [← hS2]
                        simpa using h
                      have HB8 := HB7
                      clear hS2
                      go_wp2_with fail
                      all_goals
                        go_end0
                        exact ⟨rfl, ⟨S1 ++ S2, HMS.out S2 HM2.out, HO8.out⟩, HB8.out⟩
              · have g7 : decide ((a : Int) < (i : Int)) = false := decide_eq_false (by omega)
                obtain ⟨S1, hS1⟩ : ∃ S1, A1 ++ B1 = S1 := ⟨_, rfl⟩
                have HM1 : Hid (Mrg A1 B1 S1) := by
                  show Mrg _ _ _
                  have hl := HL1.out
                  rw [← hS1]
                  rcases Nat.lt_or_ge a i with h1 | h1
                  · obtain rfl : B1 = [] := List.eq_nil_of_length_eq_zero (by omega)
                    rw [List.append_nil]; exact mrg_nil_right HSA.out.1
                  · obtain rfl : A1 = [] := List.eq_nil_of_length_eq_zero (by omega)
                    exact mrg_nil_left HSA.out.2.2.1
                have HO7 : Hid (OwnP w6 d (X ++ S1 ++ (A2 ++ B2 ++ Y))) := by
                  show OwnP _ _ _
                  have h := HO6.out
                  rw [← hS1]
                  simpa using h
                have HB7 := HB6
                clear hS1
                have HMS : Hid (∀ S2, Mrg A2 B2 S2 → Mrg A B (S1 ++ S2)) := fun S2 h2 => by
                  have h := HCM.out
                  have h1 := HSS.out
                  rw [h.ea, h.eb] at h1 ⊢
                  exact mrg_step h1.1 h1.2 h.h1 h.h2 HM1.out h2
                go_upto_region 43 with fail
                all_goals
                  rename World => w7
                  by_cases q3 : mid < t ∧ t < b
                  · have g9 : decide ((mid : Int) < (t : Int)) = true := decide_eq_true (by omega)
                    have g10 : decide ((t : Int) < (b : Int)) = true := decide_eq_true (by omega)
                    have HC3 : Hid (Calls Try.prog 133 #[.slice (some ⟨d, 0, none⟩) N cap, .int .i64 (mid : Int), .int .i64 (t : Int), .int .i64 (b : Int), .func (.func 113) #[] #[]] w7 fun e w' => e = .returned (.tuple #[]) ∧ (∃ S, Mrg A2 B2 S ∧ OwnP w' d ((X ++ S1) ++ S ++ Y)) ∧ OnlyB d w7 w') := by
                      have hl := HL1.out
                      have hs := HM1.out.2.len
                      rw [List.length_append] at hs
                      have hx := HXL.out
                      have e1 : X ++ S1 ++ (A2 ++ B2 ++ Y) = (X ++ S1) ++ A2 ++ B2 ++ Y := by simp
                      have ho := HO7.out
                      rw [e1] at ho
                      refine HREC.out (X ++ S1) A2 B2 Y mid t b w7 (by have := HFU.out; have := HLL.out; omega) ho ?_ (by rw [List.length_append]; omega) (by omega) (by omega) (by omega) (by omega) HSA.out.2.1 HSA.out.2.2.2
                      have hn := HNL.out.1
                      simp only [List.length_append] at hn ⊢
                      omega
                    go_wp2_with (go_at_call 133; refine HC3.out.mono ?_; rintro e w8 ⟨rfl, ⟨S2, hm2, ho8⟩, hb8⟩; have HM2 := Lib.hid hm2; have HO8 : Hid (OwnP w8 d (X ++ (S1 ++ S2) ++ Y)) := (by show OwnP _ _ _; simpa using ho8); have HB8 : Hid (OnlyB d w w8) := HB7.out.trans hb8; clear hm2 ho8 hb8)
                    all_goals
                      go_end0
                      exact ⟨rfl, ⟨S1 ++ S2, HMS.out S2 HM2.out, HO8.out⟩, HB8.out⟩
                  · rcases Nat.lt_or_ge mid t with q4 | q4
                    · have g9 : decide ((mid : Int) < (t : Int)) = true := decide_eq_true (by omega)
                      have g10 : decide ((t : Int) < (b : Int)) = false := decide_eq_false (by omega)
                      obtain ⟨S2, hS2⟩ : ∃ S2, A2 ++ B2 = S2 := ⟨_, rfl⟩
                      have HM2 : Hid (Mrg A2 B2 S2) := by
                        show Mrg _ _ _
                        have hl := HL1.out
                        rw [← hS2]
                        rcases Nat.lt_or_ge mid t with h1 | h1
                        · obtain rfl : B2 = [] := List.eq_nil_of_length_eq_zero (by omega)
                          rw [List.append_nil]; exact mrg_nil_right HSA.out.2.1
                        · obtain rfl : A2 = [] := List.eq_nil_of_length_eq_zero (by omega)
                          exact mrg_nil_left HSA.out.2.2.2
                      have HO8 : Hid (OwnP w7 d (X ++ (S1 ++ S2) ++ Y)) := by
                        show OwnP _ _ _
                        have h := HO7.out
                        rw [← hS2]
                        simpa using h
                      have HB8 := HB7
                      clear hS2
                      go_wp2_with fail
                      all_goals
                        go_end0
                        exact ⟨rfl, ⟨S1 ++ S2, HMS.out S2 HM2.out, HO8.out⟩, HB8.out⟩
                    · have g9 : decide ((mid : Int) < (t : Int)) = false := decide_eq_false (by omega)
                      obtain ⟨S2, hS2⟩ : ∃ S2, A2 ++ B2 = S2 := ⟨_, rfl⟩
                      have HM2 : Hid (Mrg A2 B2 S2) := by
                        show Mrg _ _ _
                        have hl := HL1.out
                        rw [← hS2]
                        rcases Nat.lt_or_ge mid t with h1 | h1
                        · obtain rfl : B2 = [] := List.eq_nil_of_length_eq_zero (by omega)
                          rw [List.append_nil]; exact mrg_nil_right HSA.out.2.1
                        · obtain rfl : A2 = [] := List.eq_nil_of_length_eq_zero (by omega)
                          exact mrg_nil_left HSA.out.2.2.2
                      have HO8 : Hid (OwnP w7 d (X ++ (S1 ++ S2) ++ Y)) := by
                        show OwnP _ _ _
                        have h := HO7.out
                        rw [← hS2]
                        simpa using h
                      have HB8 := HB7
                      clear hS2
                      go_wp2_with fail
                      all_goals
                        go_end0
                        exact ⟨rfl, ⟨S1 ++ S2, HMS.out S2 HM2.out, HO8.out⟩, HB8.out⟩
end
end Go.Proofs.Ytlbbhlkbhegegaa

/- Walks: symMerge of packets: the middle stands in the second half. Printed by gen_xg4.py. -/
namespace Go.Proofs.Ytlbbhlkbhegegaa
open Go.RowKit

section
variable {n0 d : Nat}
set_option maxRecDepth 100000 in
set_option maxHeartbeats 16000000 in
theorem sym_hi (N cap fu : Nat) (hd : n0 ≤ d) (hn : N ≤ 1000000) (hrec : SymP d N cap fu) (X A B Y : List MPkt) (a m b : Nat) (w : World) (hfu : A.length + B.length ≤ fu + 1) (ho : OwnP w d (X ++ A ++ B ++ Y)) (hN : (X ++ A ++ B ++ Y).length = N) (ha : X.length = a) (hm : a + A.length = m) (hb : m + B.length = b) (hA0 : 0 < A.length) (hB0 : 0 < B.length) (hA : SrtF A) (hB : SrtF B) (_hone : ¬ A.length = 1) (hlast : ¬ B.length = 1) (hside : m ≤ (a + b) / 2) :
    Calls Try.prog 133 #[.slice (some ⟨d, 0, none⟩) N cap, .int .i64 (a : Int), .int .i64 (m : Int), .int .i64 (b : Int), .func (.func 113) #[] #[]] w fun e w' => e = .returned (.tuple #[]) ∧ (∃ S, Mrg A B S ∧ OwnP w' d (X ++ S ++ Y)) ∧ OnlyB d w w' := by
    have HREC : Hid (∀ (X A B Y : List MPkt) (a m b : Nat) (w : World), A.length + B.length ≤ fu → OwnP w d (X ++ A ++ B ++ Y) → (X ++ A ++ B ++ Y).length = N → X.length = a → a + A.length = m → m + B.length = b → 0 < A.length → 0 < B.length → SrtF A → SrtF B → Calls Try.prog 133 #[.slice (some ⟨d, 0, none⟩) N cap, .int .i64 (a : Int), .int .i64 (m : Int), .int .i64 (b : Int), .func (.func 113) #[] #[]] w fun e w' => e = .returned (.tuple #[]) ∧ (∃ S, Mrg A B S ∧ OwnP w' d (X ++ S ++ Y)) ∧ OnlyB d w w') := fun X A B Y a m b w h1 h2 h3 h4 h5 h6 h7 h8 h9 h10 => hrec X A B Y a m b w h1 h2 h3 h4 h5 h6 h7 h8 h9 h10
    have HROT : Hid (∀ (X U V Y : List MPkt) (a m b : Nat) (w : World), OwnP w d (X ++ U ++ V ++ Y) → (X ++ U ++ V ++ Y).length = N → X.length = a → a + U.length = m → m + V.length = b → 0 < U.length → 0 < V.length → Calls Try.prog 135 #[.slice (some ⟨d, 0, none⟩) N cap, .int .i64 (a : Int), .int .i64 (m : Int), .int .i64 (b : Int), .func (.func 113) #[] #[]] w fun e w' => e = .returned (.tuple #[]) ∧ OwnP w' d (X ++ V ++ U ++ Y) ∧ OnlyB d w w') := fun X U V Y a m b w h1 h2 h3 h4 h5 h6 h7 => rotate_any X U V Y N a m b cap _ w h1 hd h2 hn h3 h4 h5 h6 h7
    clear hrec
    have HBR : Hid (OnlyB d w w) := OnlyB.refl _ _
    have HDW : Hid (n0 ≤ w.heap.size) := by have := ho.lt; show n0 ≤ _; omega
    have HDN : Hid (∀ W : World, OnlyB d w W → n0 ≤ W.heap.size) := fun W hW => Nat.le_trans HDW.out hW.size
    have hbN : b ≤ N := by rw [← hN]; simp; omega
    have HXL := Lib.hid ha
    have HLL : Hid (A.length = m - a ∧ B.length = b - m) := by constructor <;> omega
    have HSS := Lib.hid (And.intro hA hB)
    have HNN := Lib.hid hN
    have HFU := Lib.hid hfu
    have HGA : Hid (∀ q (hq : q < A.length), (X ++ A ++ B ++ Y)[a + q]? = some A[q]) := fun q hq => get_left hq ha
    have HGB : Hid (∀ q (hq : q < B.length), (X ++ A ++ B ++ Y)[m + q]? = some B[q]) := fun q hq => get_right hq (by omega)
    obtain ⟨G, hG⟩ : ∃ G, X ++ A ++ B ++ Y = G := ⟨_, rfl⟩
    rw [hG] at ho HGA HGB
    have HGG := Lib.hid hG
    have HO := Lib.hid ho
    have ham : a + 2 ≤ m := by omega
    have hmb : m + 2 ≤ b := by omega
    have g0 : (((m : Int) - (a : Int)) == 1) = false := by rw [beq_eq_false_iff_ne]; omega
    have g1 : (((b : Int) - (m : Int)) == 1) = false := by rw [beq_eq_false_iff_ne]; omega
    obtain ⟨mid, hmid⟩ : ∃ mid, (a + b) / 2 = mid := ⟨_, rfl⟩
    obtain ⟨nn, hnn⟩ : ∃ nn, mid + m = nn := ⟨_, rfl⟩
    obtain ⟨p, hp⟩ : ∃ p, p + 1 = nn := ⟨nn - 1, by omega⟩
    obtain ⟨s0, r0, hsr⟩ : ∃ s0 r0 : Nat, (mid < m ∧ s0 + b = nn ∧ r0 = mid) ∨ (m ≤ mid ∧ s0 = a ∧ r0 = m) := by
      rcases Nat.lt_or_ge mid m with h | h
      · exact ⟨nn - b, mid, .inl ⟨h, by omega, rfl⟩⟩
      · exact ⟨a, m, .inr ⟨h, rfl, rfl⟩⟩
    have HSR := Lib.hid hsr
    have c1 : ((mid : Int) + (m : Int)) = (nn : Int) := by omega
    have c2 : ((nn : Int) - 1) = (p : Int) := by omega
    have hsb : a ≤ s0 ∧ s0 ≤ r0 ∧ r0 ≤ m ∧ r0 ≤ mid := by omega
    have hmd : a + 1 ≤ mid ∧ mid + 1 ≤ b := by omega
    have HEQ : Hid ((a + b) / 2 = mid ∧ mid + m = nn ∧ p + 1 = nn) := ⟨hmid, hnn, hp⟩
    have HA0 : Hid (0 < A.length ∧ 0 < B.length) := ⟨hA0, hB0⟩
    have h : m ≤ mid := by omega
    clear ho hN ha hm hb hG hA hB hA0 hB0 _hone hlast hfu hsr hmid hnn hp hside
    have c0 : (((a : Int) + (b : Int)) / 2) = (mid : Int) := by have := HEQ.out; omega
    go_enter Try.func133, Try.ntmps133
    have g2 : decide ((m : Int) > (mid : Int)) = false := decide_eq_false (by omega)
    have HE1 : Hid (s0 = a) := by have := HSR.out; show _ = _; omega
    have HE2 : Hid (r0 = m) := by have := HSR.out; show _ = _; omega
    go_wp2_with fail
    clear c0 c1 c2 g2
    go_loopw [20, 21] (fun vi vj wr => ∃ i j : Nat, vi = .int .i64 i ∧ vj = .int .i64 j ∧ (s0 ≤ i ∧ i ≤ j ∧ j ≤ r0) ∧ Hid ((∀ c, s0 ≤ c → c < i → ∀ x y, A[c - a]? = some x → B[p - c - m]? = some y → LeF x y) ∧ ∀ c, j ≤ c → c < r0 → ∀ x y, A[c - a]? = some x → B[p - c - m]? = some y → y.flow < x.flow) ∧ Hid (OwnP wr d G) ∧ Hid (OnlyB d w wr)) (fun vi vj _ => (intOf vj).toNat - (intOf vi).toNat)
    case atStart => exact ⟨s0, r0, by first | rfl | rw [HE1.out], by rw [HE2.out], ⟨Nat.le_refl _, hsb.2.1, Nat.le_refl _⟩, ⟨fun c h1 h2 => by omega, fun c h1 h2 => by omega⟩, HO, HBR⟩
    case round =>
      clear HO HBR
      obtain ⟨i, j, rfl, rfl, hij, HF, HZ, HB⟩ := hrel
      rename World => wr
      by_cases hlt : i < j
      · obtain ⟨h, hh⟩ : ∃ h, (i + j) / 2 = h := ⟨_, rfl⟩
        have hhb : i ≤ h ∧ h < j := by omega
        obtain ⟨k, hk⟩ : ∃ k, p - h = k := ⟨_, rfl⟩
        have hkb : m ≤ k ∧ k < b ∧ a ≤ h ∧ h < m ∧ k + h = p := by have := HSR.out; have := HEQ.out; omega
        obtain ⟨x, hxq⟩ : ∃ x, A[h - a]? = some x := ⟨_, List.getElem?_eq_getElem (show h - a < A.length by rw [HLL.out.1]; omega)⟩
        obtain ⟨y, hyq⟩ : ∃ y, B[k - m]? = some y := ⟨_, List.getElem?_eq_getElem (show k - m < B.length by rw [HLL.out.2]; omega)⟩
        have hx : G[h]? = some x := by
          have := HGA.out (h - a) (by rw [HLL.out.1]; omega)
          rw [show a + (h - a) = h by omega] at this
          rw [this, ← hxq, List.getElem?_eq_getElem]
        have hy : G[k]? = some y := by
          have := HGB.out (k - m) (by rw [HLL.out.2]; omega)
          rw [show m + (k - m) = k by omega] at this
          rw [this, ← hyq, List.getElem?_eq_getElem]
        have HXQ := Lib.hid hxq
        have HYQ := Lib.hid hyq
        have c4 : (((i : Int) + (j : Int)) / 2) = (h : Int) := by omega
        have HHH := Lib.hid c4
        have HKK := Lib.hid hk
        have hhN : h < N := by omega
        have hkN : k < N := by omega
        have c3 : ((p : Int) - (h : Int)) = (k : Int) := by omega
        clear hxq hyq hk
        obtain ⟨p0, p1, p2, p3⟩ := HZ.out.at_ hy
        obtain ⟨q0, q1, q2, q3⟩ := HZ.out.at_ hx
        have hdz := HZ.out.lt
        have m0 := BW.cell (B := wr.heap.size) hdz p0
        have m1 := BW.cell (B := wr.heap.size) hdz p1
        have m2 := BW.cell (B := wr.heap.size) hdz p2
        have m3 := BW.cell (B := wr.heap.size) hdz p3
        have m4 := BW.cell (B := wr.heap.size) hdz q0
        have m5 := BW.cell (B := wr.heap.size) hdz q1
        have m6 := BW.cell (B := wr.heap.size) hdz q2
        have m7 := BW.cell (B := wr.heap.size) hdz q3
        obtain ⟨v, hv⟩ : ∃ v, cmpV y.flow x.flow = v := ⟨_, rfl⟩
        have hvn := cmpV_neg y.flow x.flow
        rw [hv] at hvn
        have HVN := Lib.hid hvn
        have HC : Hid (∀ s : BW wr.heap.size wr, Calls Try.prog 113 #[pkV y, pkV x] s.1 fun e w' => e = .returned (.int .i64 v) ∧ Below s.1.heap.size s.1 w') := fun s => cmpp_any y x s.1 hv
        clear hv hvn p0 p1 p2 p3 q0 q1 q2 q3 hx hy
        rcases hneg : decide (v < 0)
        all_goals
          have HNEG := Lib.hid hneg
          go_upto_region 35 with fail
          refine wp_region_below wr.heap.size wr (Below.refl _ _) (by kernel_rfl) (by kernel_rfl) ?_
          repeat (go_big_quiet_step ((go_at_call 113; exact quiet_below (Nat.le_refl _) (HC.out _))))
          refine wpQuiet_nil ?_
          clear m0 m1 m2 m3 m4 m5 m6 m7 HC
          intro s
          have HZ5 : Hid (OwnP s.1 d G) := HZ.out.below s.2 hdz
          have HB5 : Hid (OnlyB d w s.1) := HB.out.trans (OnlyB.of s.2)
          generalize s.1 = w5 at *
          go_wp2_with fail
        · -- ours is not behind: start := h + 1
          have HF2 : Hid ((∀ c, s0 ≤ c → c < h + 1 → ∀ x y, A[c - a]? = some x → B[p - c - m]? = some y → LeF x y) ∧ ∀ c, j ≤ c → c < r0 → ∀ x y, A[c - a]? = some x → B[p - c - m]? = some y → y.flow < x.flow) := by
            refine ⟨fun c hc1 hc2 u u2 hu hu2 => ?_, HF.out.2⟩
            have k1 := srt_le HSS.out.1 hu HXQ.out (by omega)
            have k2 := srt_le HSS.out.2 HYQ.out hu2 (by omega)
            have k3 : ¬ y.flow < x.flow := fun hl => by have := HVN.out.2 hl; have := of_decide_eq_false HNEG.out; omega
            unfold LeF at k1 k2 ⊢
            omega
          (try rw [HHH.out])
          go_roundw
          case rel => exact ⟨h + 1, j, by go_num, rfl, by omega, HF2, HZ5, HB5⟩
          case measure => simp [intOf]; omega
        · have HF2 : Hid ((∀ c, s0 ≤ c → c < i → ∀ x y, A[c - a]? = some x → B[p - c - m]? = some y → LeF x y) ∧ ∀ c, h ≤ c → c < r0 → ∀ x y, A[c - a]? = some x → B[p - c - m]? = some y → y.flow < x.flow) := by
            refine ⟨HF.out.1, fun c hc1 hc2 u u2 hu hu2 => ?_⟩
            have k1 := srt_le HSS.out.1 HXQ.out hu (by omega)
            have k2 := srt_le HSS.out.2 hu2 HYQ.out (by omega)
            have k3 : y.flow < x.flow := HVN.out.1 (of_decide_eq_true HNEG.out)
            unfold LeF at k1 k2
            omega
          (try rw [HHH.out])
          go_roundw
          case rel => exact ⟨i, h, rfl, rfl, by omega, HF2, HZ5, HB5⟩
          case measure => simp [intOf]; omega
      · obtain rfl : i = j := by omega
        obtain ⟨t, ht⟩ : ∃ t, t + i = nn := ⟨nn - i, by have := HSR.out; have := HEQ.out; omega⟩
        have htb : m ≤ t ∧ t ≤ b := by have := HSR.out; have := HEQ.out; omega
        have hib : a ≤ i ∧ i ≤ m ∧ i ≤ mid ∧ mid ≤ t := by have := HSR.out; have := HEQ.out; omega
        have HCUT : Hid (∃ A1 A2 B1 B2, CutM X A B Y a m b mid i t A1 A2 B1 B2) := by
          have hl := HLL.out
          have hc := cut_ok (s := i - a) (t := t - m) HSS.out.1 HSS.out.2 (by omega) (by omega) (fun h1 h2 => by
            have e1 : A.getD (i - a) dPkt = A[i - a] := by rw [List.getD_eq_getElem?_getD, List.getElem?_eq_getElem h1]; rfl
            have h3 : t - m - 1 < B.length := by omega
            have e2 : B.getD (t - m - 1) dPkt = B[t - m - 1] := by rw [List.getD_eq_getElem?_getD, List.getElem?_eq_getElem h3]; rfl
            rw [e1, e2]
            refine HF.out.2 i (Nat.le_refl _) (by have := HSR.out; have := HEQ.out; omega) _ _ (List.getElem?_eq_getElem h1) ?_
            rw [show p - i - m = t - m - 1 by have := HEQ.out; omega]
            exact List.getElem?_eq_getElem h3) (fun h1 h2 => by
            have h3 : i - a - 1 < A.length := by omega
            have e1 : A.getD (i - a - 1) dPkt = A[i - a - 1] := by rw [List.getD_eq_getElem?_getD, List.getElem?_eq_getElem h3]; rfl
            have e2 : B.getD (t - m) dPkt = B[t - m] := by rw [List.getD_eq_getElem?_getD, List.getElem?_eq_getElem h2]; rfl
            rw [e1, e2]
            refine HF.out.1 (i - 1) (by have := HSR.out; have := HEQ.out; omega) (by omega) _ _ ?_ ?_
            · rw [show i - 1 - a = i - a - 1 by omega]; exact List.getElem?_eq_getElem h3
            · rw [show p - (i - 1) - m = t - m by have := HEQ.out; omega]; exact List.getElem?_eq_getElem h2)
          exact ⟨A.take (i - a), A.drop (i - a), B.take (t - m), B.drop (t - m), (List.take_append_drop _ _).symm, (List.take_append_drop _ _).symm, by rw [List.length_take]; omega, by rw [List.length_drop]; omega, by rw [List.length_take]; omega, by rw [List.length_drop]; omega, by rw [List.length_drop]; have := HEQ.out; omega, hc.1, hc.2⟩
        obtain ⟨A1, A2, B1, B2, hcm⟩ := HCUT.out
        have HCM := Lib.hid hcm
        have HZ0 : Hid (OwnP wr d ((X ++ A1) ++ A2 ++ B1 ++ (B2 ++ Y))) := by
          have h := HZ.out
          rw [← HGG.out, hcm.ea, hcm.eb] at h
          show OwnP _ _ _
          simpa using h
        have HNL : Hid (((X ++ A1) ++ A2 ++ B1 ++ (B2 ++ Y)).length = N ∧ (X ++ A1).length = i) := by
          constructor
          · rw [← HNN.out, hcm.ea, hcm.eb]; simp
          · rw [List.length_append, HXL.out]; exact hcm.l1
        have HBN : Hid (OnlyB d w wr) := HB
        have c4 : ((nn : Int) - (i : Int)) = (t : Int) := by omega
        have HEN := Lib.hid ht
        clear hcm HCUT HF HZ HB HGA HGB HSR ht
        have HL1 : Hid (A1.length = i - a ∧ A2.length = m - i ∧ B1.length = t - m ∧ B2.length = b - t ∧ t - m = mid - i) := by
          have h1 := HCM.out.l1; have h2 := HCM.out.l2; have h3 := HCM.out.l3; have h4 := HCM.out.l4; have h5 := HCM.out.mid
          refine ⟨?_, ?_, ?_, ?_, ?_⟩ <;> omega
        have HSA : Hid (SrtF A1 ∧ SrtF A2 ∧ SrtF B1 ∧ SrtF B2) := by
          have h1 := HSS.out
          rw [HCM.out.ea, HCM.out.eb, srt_app, srt_app] at h1
          exact ⟨h1.1.1, h1.1.2.1, h1.2.1, h1.2.2.1⟩
        go_upto_region 39 with fail
        obtain ⟨q, hq⟩ : ∃ q, decide (i < m ∧ m < t) = q := ⟨_, rfl⟩
        have HQ := Lib.hid hq
        clear hq
        go_cut [185] (fun v wx => v = .bool q ∧ wx = wr)
        case first =>
          by_cases q1 : i < m
          · have g5 : decide ((i : Int) < (m : Int)) = true := decide_eq_true (by omega)
            by_cases q2 : m < t
            · have g6 : decide ((m : Int) < (t : Int)) = true := decide_eq_true (by omega)
              have HQ2 : Hid (q = true) := by show q = true; rw [← HQ.out]; exact decide_eq_true ⟨q1, q2⟩
              go_wp2_with fail
              go_meet
              exact ⟨by rw [HQ2.out], rfl⟩
            · have g6 : decide ((m : Int) < (t : Int)) = false := decide_eq_false (by omega)
              have HQ2 : Hid (q = false) := by show q = false; rw [← HQ.out]; exact decide_eq_false (fun h => q2 h.2)
              go_wp2_with fail
              go_meet
              exact ⟨by rw [HQ2.out], rfl⟩
          · have g5 : decide ((i : Int) < (m : Int)) = false := decide_eq_false (by omega)
            have HQ2 : Hid (q = false) := by show q = false; rw [← HQ.out]; exact decide_eq_false (fun h => q1 h.1)
            go_wp2_with fail
            go_meet
            exact ⟨by rw [HQ2.out], rfl⟩
        case rest =>
          obtain ⟨rfl, hwc⟩ := hcut
          rename World => wc
          subst hwc
          go_upto_if 185 with fail
          go_cut [] (fun wx => Hid (OwnP wx d ((X ++ A1) ++ B1 ++ A2 ++ (B2 ++ Y))) ∧ Hid (OnlyB d w wx))
          case first =>
            rcases q
            · have HO6 : Hid (OwnP wc d ((X ++ A1) ++ B1 ++ A2 ++ (B2 ++ Y))) := by
                have h := HZ0.out
                have hl := HL1.out
                have hq := of_decide_eq_false HQ.out
                show OwnP _ _ _
                rcases Nat.lt_or_ge i m with h1 | h1
                · obtain rfl : B1 = [] := List.eq_nil_of_length_eq_zero (by omega)
                  simpa using h
                · obtain rfl : A2 = [] := List.eq_nil_of_length_eq_zero (by omega)
                  simpa using h
              go_wp2_with fail
              go_meet
              exact ⟨HO6, HBN⟩
            · have HC : Hid (Calls Try.prog 135 #[.slice (some ⟨d, 0, none⟩) N cap, .int .i64 (i : Int), .int .i64 (m : Int), .int .i64 (t : Int), .func (.func 113) #[] #[]] wc fun e w' => e = .returned (.tuple #[]) ∧ OwnP w' d ((X ++ A1) ++ B1 ++ A2 ++ (B2 ++ Y)) ∧ OnlyB d wc w') := by
                have hq := of_decide_eq_true HQ.out
                exact HROT.out (X ++ A1) A2 B1 (B2 ++ Y) i m t wc HZ0.out HNL.out.1 HNL.out.2 HCM.out.l2 HCM.out.l3 (by rw [HL1.out.2.1]; omega) (by rw [HL1.out.2.2.1]; omega)
              go_wp2_with (go_at_call 135; refine HC.out.mono ?_; rintro e w6 ⟨rfl, ho6, hb6⟩; have HO6 := Lib.hid ho6; have HB6 : Hid (OnlyB d w w6) := HBN.out.trans hb6; clear ho6 hb6)
              go_meet
              exact ⟨HO6, HB6⟩
          case rest =>
            clear HZ0 HBN
            obtain ⟨HO6, HB6⟩ := hcut
            rename World => w6
            go_upto_region 41 with fail
            by_cases q5 : a < i ∧ i < mid
            · have g7 : decide ((a : Int) < (i : Int)) = true := decide_eq_true (by omega)
              have g8 : decide ((i : Int) < (mid : Int)) = true := decide_eq_true (by omega)
              have HC2 : Hid (Calls Try.prog 133 #[.slice (some ⟨d, 0, none⟩) N cap, .int .i64 (a : Int), .int .i64 (i : Int), .int .i64 (mid : Int), .func (.func 113) #[] #[]] w6 fun e w' => e = .returned (.tuple #[]) ∧ (∃ S, Mrg A1 B1 S ∧ OwnP w' d (X ++ S ++ (A2 ++ B2 ++ Y))) ∧ OnlyB d w6 w') := by
                have hl := HL1.out
                have hx := HXL.out
                have e1 : (X ++ A1) ++ B1 ++ A2 ++ (B2 ++ Y) = X ++ A1 ++ B1 ++ (A2 ++ B2 ++ Y) := by simp
                have ho := HO6.out
                rw [e1] at ho
                refine HREC.out X A1 B1 (A2 ++ B2 ++ Y) a i mid w6 (by have := HFU.out; have := HLL.out; omega) ho ?_ hx (by omega) (by omega) (by omega) (by omega) HSA.out.1 HSA.out.2.2.1
                have hn := HNL.out.1
                simp only [List.length_append] at hn ⊢
                omega
              go_upto_region 43 with (go_at_call 133; refine HC2.out.mono ?_; rintro e w7 ⟨rfl, ⟨S1, hm1, ho7⟩, hb7⟩; have HM1 := Lib.hid hm1; have HO7 := Lib.hid ho7; have HB7 : Hid (OnlyB d w w7) := HB6.out.trans hb7; clear hm1 ho7 hb7)
              all_goals
                have HMS : Hid (∀ S2, Mrg A2 B2 S2 → Mrg A B (S1 ++ S2)) := fun S2 h2 => by
                  have h := HCM.out
                  have h1 := HSS.out
                  rw [h.ea, h.eb] at h1 ⊢
                  exact mrg_step h1.1 h1.2 h.h1 h.h2 HM1.out h2
                by_cases q3 : mid < t ∧ t < b
                · have g9 : decide ((mid : Int) < (t : Int)) = true := decide_eq_true (by omega)
                  have g10 : decide ((t : Int) < (b : Int)) = true := decide_eq_true (by omega)
                  have HC3 : Hid (Calls Try.prog 133 #[.slice (some ⟨d, 0, none⟩) N cap, .int .i64 (mid : Int), .int .i64 (t : Int), .int .i64 (b : Int), .func (.func 113) #[] #[]] w7 fun e w' => e = .returned (.tuple #[]) ∧ (∃ S, Mrg A2 B2 S ∧ OwnP w' d ((X ++ S1) ++ S ++ Y)) ∧ OnlyB d w7 w') := by
                    have hl := HL1.out
                    have hs := HM1.out.2.len
                    rw [List.length_append] at hs
                    have hx := HXL.out
                    have e1 : X ++ S1 ++ (A2 ++ B2 ++ Y) = (X ++ S1) ++ A2 ++ B2 ++ Y := by simp
                    have ho := HO7.out
                    rw [e1] at ho
                    refine HREC.out (X ++ S1) A2 B2 Y mid t b w7 (by have := HFU.out; have := HLL.out; omega) ho ?_ (by rw [List.length_append]; omega) (by omega) (by omega) (by omega) (by omega) HSA.out.2.1 HSA.out.2.2.2
                    have hn := HNL.out.1
                    simp only [List.length_append] at hn ⊢
                    omega
                  go_wp2_with (go_at_call 133; refine HC3.out.mono ?_; rintro e w8 ⟨rfl, ⟨S2, hm2, ho8⟩, hb8⟩; have HM2 := Lib.hid hm2; have HO8 : Hid (OwnP w8 d (X ++ (S1 ++ S2) ++ Y)) := (by show OwnP _ _ _; simpa using ho8); have HB8 : Hid (OnlyB d w w8) := HB7.out.trans hb8; clear hm2 ho8 hb8)
                  all_goals
                    go_end0
                    exact ⟨rfl, ⟨S1 ++ S2, HMS.out S2 HM2.out, HO8.out⟩, HB8.out⟩
                · rcases Nat.lt_or_ge mid t with q4 | q4
                  · have g9 : decide ((mid : Int) < (t : Int)) = true := decide_eq_true (by omega)
                    have g10 : decide ((t : Int) < (b : Int)) = false := decide_eq_false (by omega)
                    obtain ⟨S2, hS2⟩ : ∃ S2, A2 ++ B2 = S2 := ⟨_, rfl⟩
                    have HM2 : Hid (Mrg A2 B2 S2) := by
                      show Mrg _ _ _
                      have hl := HL1.out
                      rw [← hS2]
                      rcases Nat.lt_or_ge mid t with h1 | h1
                      · obtain rfl : B2 = [] := List.eq_nil_of_length_eq_zero (by omega)
                        rw [List.append_nil]; exact mrg_nil_right HSA.out.2.1
                      · obtain rfl : A2 = [] := List.eq_nil_of_length_eq_zero (by omega)
                        exact mrg_nil_left HSA.out.2.2.2
                    have HO8 : Hid (OwnP w7 d (X ++ (S1 ++ S2) ++ Y)) := by
                      show OwnP _ _ _
                      have h := HO7.out
                      rw [← hS2]
                      simpa using h
                    have HB8 := HB7
                    clear hS2
                    go_wp2_with fail
                    all_goals
                      go_end0
                      exact ⟨rfl, ⟨S1 ++ S2, HMS.out S2 HM2.out, HO8.out⟩, HB8.out⟩
                  · have g9 : decide ((mid : Int) < (t : Int)) = false := decide_eq_false (by omega)
                    obtain ⟨S2, hS2⟩ : ∃ S2, A2 ++ B2 = S2 := ⟨_, rfl⟩
                    have HM2 : Hid (Mrg A2 B2 S2) := by
                      show Mrg _ _ _
                      have hl := HL1.out
                      rw [← hS2]
                      rcases Nat.lt_or_ge mid t with h1 | h1
                      · obtain rfl : B2 = [] := List.eq_nil_of_length_eq_zero (by omega)
                        rw [List.append_nil]; exact mrg_nil_right HSA.out.2.1
                      · obtain rfl : A2 = [] := List.eq_nil_of_length_eq_zero (by omega)
                        exact mrg_nil_left HSA.out.2.2.2
                    have HO8 : Hid (OwnP w7 d (X ++ (S1 ++ S2) ++ Y)) := by
                      show OwnP _ _ _
                      have h := HO7.out
                      rw [← hS2]
                      simpa using h
                    have HB8 := HB7
                    clear hS2
                    go_wp2_with fail
                    all_goals
                      go_end0
                      exact ⟨rfl, ⟨S1 ++ S2, HMS.out S2 HM2.out, HO8.out⟩, HB8.out⟩
            · rcases Nat.lt_or_ge a i with q6 | q6
              · have g7 : decide ((a : Int) < (i : Int)) = true := decide_eq_true (by omega)
                have g8 : decide ((i : Int) < (mid : Int)) = false := decide_eq_false (by omega)
                obtain ⟨S1, hS1⟩ : ∃ S1, A1 ++ B1 = S1 := ⟨_, rfl⟩
                have HM1 : Hid (Mrg A1 B1 S1) := by
                  show Mrg _ _ _
                  have hl := HL1.out
                  rw [← hS1]
                  rcases Nat.lt_or_ge a i with h1 | h1
                  · obtain rfl : B1 = [] := List.eq_nil_of_length_eq_zero (by omega)
                    rw [List.append_nil]; exact mrg_nil_right HSA.out.1
                  · obtain rfl : A1 = [] := List.eq_nil_of_length_eq_zero (by omega)
                    exact mrg_nil_left HSA.out.2.2.1
                have HO7 : Hid (OwnP w6 d (X ++ S1 ++ (A2 ++ B2 ++ Y))) := by
                  show OwnP _ _ _
                  have h := HO6.out
                  rw [← hS1]
                  simpa using h
                have HB7 := HB6
                clear hS1
                have HMS : Hid (∀ S2, Mrg A2 B2 S2 → Mrg A B (S1 ++ S2)) := fun S2 h2 => by
                  have h := HCM.out
                  have h1 := HSS.out
                  rw [h.ea, h.eb] at h1 ⊢
                  exact mrg_step h1.1 h1.2 h.h1 h.h2 HM1.out h2
                go_upto_region 43 with fail
                all_goals
                  rename World => w7
                  by_cases q3 : mid < t ∧ t < b
                  · have g9 : decide ((mid : Int) < (t : Int)) = true := decide_eq_true (by omega)
                    have g10 : decide ((t : Int) < (b : Int)) = true := decide_eq_true (by omega)
                    have HC3 : Hid (Calls Try.prog 133 #[.slice (some ⟨d, 0, none⟩) N cap, .int .i64 (mid : Int), .int .i64 (t : Int), .int .i64 (b : Int), .func (.func 113) #[] #[]] w7 fun e w' => e = .returned (.tuple #[]) ∧ (∃ S, Mrg A2 B2 S ∧ OwnP w' d ((X ++ S1) ++ S ++ Y)) ∧ OnlyB d w7 w') := by
                      have hl := HL1.out
                      have hs := HM1.out.2.len
                      rw [List.length_append] at hs
                      have hx := HXL.out
                      have e1 : X ++ S1 ++ (A2 ++ B2 ++ Y) = (X ++ S1) ++ A2 ++ B2 ++ Y := by simp
                      have ho := HO7.out
                      rw [e1] at ho
                      refine HREC.out (X ++ S1) A2 B2 Y mid t b w7 (by have := HFU.out; have := HLL.out; omega) ho ?_ (by rw [List.length_append]; omega) (by omega) (by omega) (by omega) (by omega) HSA.out.2.1 HSA.out.2.2.2
                      have hn := HNL.out.1
                      simp only [List.length_append] at hn ⊢
                      omega
                    go_wp2_with (go_at_call 133; refine HC3.out.mono ?_; rintro e w8 ⟨rfl, ⟨S2, hm2, ho8⟩, hb8⟩; have HM2 := Lib.hid hm2; have HO8 : Hid (OwnP w8 d (X ++ (S1 ++ S2) ++ Y)) := (by show OwnP _ _ _; simpa using ho8); have HB8 : Hid (OnlyB d w w8) := HB7.out.trans hb8; clear hm2 ho8 hb8)
                    all_goals
                      go_end0
                      exact ⟨rfl, ⟨S1 ++ S2, HMS.out S2 HM2.out, HO8.out⟩, HB8.out⟩
                  · rcases Nat.lt_or_ge mid t with q4 | q4
                    · have g9 : decide ((mid : Int) < (t : Int)) = true := decide_eq_true (by omega)
                      have g10 : decide ((t : Int) < (b : Int)) = false := decide_eq_false (by omega)
                      obtain ⟨S2, hS2⟩ : ∃ S2, A2 ++ B2 = S2 := ⟨_, rfl⟩
                      have HM2 : Hid (Mrg A2 B2 S2) := by
                        show Mrg _ _ _
                        have hl := HL1.out
                        rw [← hS2]
                        rcases Nat.lt_or_ge mid t with h1 | h1
                        · obtain rfl : B2 = [] := List.eq_nil_of_length_eq_zero (by omega)
                          rw [List.append_nil]; exact mrg_nil_right HSA.out.2.1
                        · obtain rfl : A2 = [] := List.eq_nil_of_length_eq_zero (by omega)
                          exact mrg_nil_left HSA.out.2.2.2
                      have HO8 : Hid (OwnP w7 d (X ++ (S1 ++ S2) ++ Y)) := by
                        show OwnP _ _ _
                        have h := HO7.out
                        rw [← hS2]
                        simpa using h
                      have HB8 := HB7
                      clear hS2
                      go_wp2_with fail
                      all_goals
                        go_end0
                        exact ⟨rfl, ⟨S1 ++ S2, HMS.out S2 HM2.out, HO8.out⟩, HB8.out⟩
                    · have g9 : decide ((mid : Int) < (t : Int)) = false := decide_eq_false (by omega)
                      obtain ⟨S2, hS2⟩ : ∃ S2, A2 ++ B2 = S2 := ⟨_, rfl⟩
                      have HM2 : Hid (Mrg A2 B2 S2) := by
                        show Mrg _ _ _
                        have hl := HL1.out
                        rw [← hS2]
                        rcases Nat.lt_or_ge mid t with h1 | h1
                        · obtain rfl : B2 = [] := List.eq_nil_of_length_eq_zero (by omega)
                          rw [List.append_nil]; exact mrg_nil_right HSA.out.2.1
                        · obtain rfl : A2 = [] := List.eq_nil_of_length_eq_zero (by omega)
                          exact mrg_nil_left HSA.out.2.2.2
                      have HO8 : Hid (OwnP w7 d (X ++ (S1 ++ S2) ++ Y)) := by
                        show OwnP _ _ _
                        have h := HO7.out
                        rw [← hS2]
                        simpa using h
                      have HB8 := HB7
                      clear hS2
                      go_wp2_with fail
                      all_goals
                        go_end0
                        exact ⟨rfl, ⟨S1 ++ S2, HMS.out S2 HM2.out, HO8.out⟩, HB8.out⟩
              · have g7 : decide ((a : Int) < (i : Int)) = false := decide_eq_false (by omega)
                obtain ⟨S1, hS1⟩ : ∃ S1, A1 ++ B1 = S1 := ⟨_, rfl⟩
                have HM1 : Hid (Mrg A1 B1 S1) := by
                  show Mrg _ _ _
                  have hl := HL1.out
                  rw [← hS1]
                  rcases Nat.lt_or_ge a i with h1 | h1
                  · obtain rfl : B1 = [] := List.eq_nil_of_length_eq_zero (by omega)
                    rw [List.append_nil]; exact mrg_nil_right HSA.out.1
                  · obtain rfl : A1 = [] := List.eq_nil_of_length_eq_zero (by omega)
                    exact mrg_nil_left HSA.out.2.2.1
                have HO7 : Hid (OwnP w6 d (X ++ S1 ++ (A2 ++ B2 ++ Y))) := by
                  show OwnP _ _ _
                  have h := HO6.out
                  rw [← hS1]
                  simpa using h
                have HB7 := HB6
                clear hS1
                have HMS : Hid (∀ S2, Mrg A2 B2 S2 → Mrg A B (S1 ++ S2)) := fun S2 h2 => by
                  have h := HCM.out
                  have h1 := HSS.out
                  rw [h.ea, h.eb] at h1 ⊢
                  exact mrg_step h1.1 h1.2 h.h1 h.h2 HM1.out h2
                go_upto_region 43 with fail
                all_goals
                  rename World => w7
                  by_cases q3 : mid < t ∧ t < b
                  · have g9 : decide ((mid : Int) < (t : Int)) = true := decide_eq_true (by omega)
                    have g10 : decide ((t : Int) < (b : Int)) = true := decide_eq_true (by omega)
                    have HC3 : Hid (Calls Try.prog 133 #[.slice (some ⟨d, 0, none⟩) N cap, .int .i64 (mid : Int), .int .i64 (t : Int), .int .i64 (b : Int), .func (.func 113) #[] #[]] w7 fun e w' => e = .returned (.tuple #[]) ∧ (∃ S, Mrg A2 B2 S ∧ OwnP w' d ((X ++ S1) ++ S ++ Y)) ∧ OnlyB d w7 w') := by
                      have hl := HL1.out
                      have hs := HM1.out.2.len
                      rw [List.length_append] at hs
                      have hx := HXL.out
                      have e1 : X ++ S1 ++ (A2 ++ B2 ++ Y) = (X ++ S1) ++ A2 ++ B2 ++ Y := by simp
                      have ho := HO7.out
                      rw [e1] at ho
                      refine HREC.out (X ++ S1) A2 B2 Y mid t b w7 (by have := HFU.out; have := HLL.out; omega) ho ?_ (by rw [List.length_append]; omega) (by omega) (by omega) (by omega) (by omega) HSA.out.2.1 HSA.out.2.2.2
                      have hn := HNL.out.1
                      simp only [List.length_append] at hn ⊢
                      omega
                    go_wp2_with (go_at_call 133; refine HC3.out.mono ?_; rintro e w8 ⟨rfl, ⟨S2, hm2, ho8⟩, hb8⟩; have HM2 := Lib.hid hm2; have HO8 : Hid (OwnP w8 d (X ++ (S1 ++ S2) ++ Y)) := (by show OwnP _ _ _; simpa using ho8); have HB8 : Hid (OnlyB d w w8) := HB7.out.trans hb8; clear hm2 ho8 hb8)
                    all_goals
                      go_end0
                      exact ⟨rfl, ⟨S1 ++ S2, HMS.out S2 HM2.out, HO8.out⟩, HB8.out⟩
                  · rcases Nat.lt_or_ge mid t with q4 | q4
                    · have g9 : decide ((mid : Int) < (t : Int)) = true := decide_eq_true (by omega)
                      have g10 : decide ((t : Int) < (b : Int)) = false := decide_eq_false (by omega)
                      obtain ⟨S2, hS2⟩ : ∃ S2, A2 ++ B2 = S2 := ⟨_, rfl⟩
                      have HM2 : Hid (Mrg A2 B2 S2) := by
                        show Mrg _ _ _
                        have hl := HL1.out
                        rw [← hS2]
                        rcases Nat.lt_or_ge mid t with h1 | h1
                        · obtain rfl : B2 = [] := List.eq_nil_of_length_eq_zero (by omega)
                          rw [List.append_nil]; exact mrg_nil_right HSA.out.2.1
                        · obtain rfl : A2 = [] := List.eq_nil_of_length_eq_zero (by omega)
                          exact mrg_nil_left HSA.out.2.2.2
                      have HO8 : Hid (OwnP w7 d (X ++ (S1 ++ S2) ++ Y)) := by
                        show OwnP _ _ _
                        have h := HO7.out
                        rw [← hS2]
                        simpa using h
                      have HB8 := HB7
                      clear hS2
                      go_wp2_with fail
                      all_goals
                        go_end0
                        exact ⟨rfl, ⟨S1 ++ S2, HMS.out S2 HM2.out, HO8.out⟩, HB8.out⟩
                    · have g9 : decide ((mid : Int) < (t : Int)) = false := decide_eq_false (by omega)
                      obtain ⟨S2, hS2⟩ : ∃ S2, A2 ++ B2 = S2 := ⟨_, rfl⟩
                      have HM2 : Hid (Mrg A2 B2 S2) := by
                        show Mrg _ _ _
                        have hl := HL1.out
                        rw [← hS2]
                        rcases Nat.lt_or_ge mid t with h1 | h1
                        · obtain rfl : B2 = [] := List.eq_nil_of_length_eq_zero (by omega)
                          rw [List.append_nil]; exact mrg_nil_right HSA.out.2.1
                        · obtain rfl : A2 = [] := List.eq_nil_of_length_eq_zero (by omega)
                          exact mrg_nil_left HSA.out.2.2.2
                      have HO8 : Hid (OwnP w7 d (X ++ (S1 ++ S2) ++ Y)) := by
                        show OwnP _ _ _
                        have h := HO7.out
                        rw [← hS2]
                        simpa using h
                      have HB8 := HB7
                      clear hS2
                      go_wp2_with fail
                      all_goals
                        go_end0
                        exact ⟨rfl, ⟨S1 ++ S2, HMS.out S2 HM2.out, HO8.out⟩, HB8.out⟩
end
end Go.Proofs.Ytlbbhlkbhegegaa

/- Walks: symMerge of packets. Printed by gen_xg4.py. -/
namespace Go.Proofs.Ytlbbhlkbhegegaa
open Go.RowKit

theorem symMerge_any {n0 d : Nat} (N cap : Nat) (hd : n0 ≤ d) (hn : N ≤ 1000000) : ∀ fu, SymP d N cap fu
  | 0, _, _, _, _, _, _, _, _, h, _, _, _, _, _, h1, _, _, _ => by omega
  | fu + 1, X, A, B, Y, a, m, b, w, hfu, ho, hN, ha, hm, hb, hA0, hB0, hA, hB => by
    by_cases hone : A.length = 1
    · exact merge_first X A B Y N a m b cap w ho hd hN hn ha hm hb hA hB hone
    by_cases hlast : B.length = 1
    · exact merge_last X A B Y N a m b cap w ho hd hN hn ha hm hb hA hB hlast (by omega)
    rcases Nat.lt_or_ge ((a + b) / 2) m with h | h
    · exact sym_lo N cap fu hd hn (symMerge_any N cap hd hn fu) X A B Y a m b w hfu ho hN ha hm hb hA0 hB0 hA hB hone hlast h
    · exact sym_hi N cap fu hd hn (symMerge_any N cap hd hn fu) X A B Y a m b w hfu ho hN ha hm hb hA0 hB0 hA hB hone hlast h
end Go.Proofs.Ytlbbhlkbhegegaa

/- Walks: the stable sort of packets, whole. -/
namespace Go.Proofs.Ytlbbhlkbhegegaa
open Go.RowKit

/-- a part of a list -/
def seg (L : List MPkt) (i j : Nat) : List MPkt := (L.take j).drop i
theorem seg_get (L : List MPkt) (i j q : Nat) : (seg L i j)[q]? = if i + q < j then L[i + q]? else none := by
  unfold seg
  rw [List.getElem?_drop, List.getElem?_take]
theorem seg_same {L L' : List MPkt} {i j : Nat} (h : ∀ q, i ≤ q → q < j → L'[q]? = L[q]?) : seg L' i j = seg L i j := by
  apply List.ext_getElem?
  intro q
  rw [seg_get, seg_get]
  split
  · exact h _ (by omega) (by omega)
  · rfl
theorem seg_keep {X A A' Y : List MPkt} {i j : Nat} (hl : A'.length = A.length) (h : j ≤ X.length ∨ X.length + A.length ≤ i) : seg (X ++ A' ++ Y) i j = seg (X ++ A ++ Y) i j := by
  refine seg_same fun q h1 h2 => ?_
  rcases h with h | h
  · rw [List.append_assoc, List.append_assoc, List.getElem?_append_left (by omega), List.getElem?_append_left (by omega)]
  · rw [List.getElem?_append_right (by rw [List.length_append]; omega), List.getElem?_append_right (by rw [List.length_append]; omega), List.length_append, List.length_append, hl]
theorem seg_mid (X A Y : List MPkt) : seg (X ++ A ++ Y) X.length (X.length + A.length) = A := by
  unfold seg
  rw [List.take_append_of_le_length (by rw [List.length_append]; omega), List.take_of_length_le (by rw [List.length_append]; omega), List.drop_left]
theorem seg_len {L : List MPkt} {i j : Nat} (hj : j ≤ L.length) : (seg L i j).length = j - i := by
  unfold seg
  rw [List.length_drop, List.length_take]
  omega
theorem seg_none {L : List MPkt} {i j : Nat} (h : L.length ≤ i) : seg L i j = [] := by
  unfold seg
  rw [List.drop_eq_nil_iff, List.length_take]
  omega
theorem seg_cut {L : List MPkt} {i j : Nat} (hij : i ≤ j) : L = seg L 0 i ++ seg L i j ++ L.drop j := by
  unfold seg
  rw [List.drop_zero]
  have h1 : L.take i ++ (L.take j).drop i = L.take j := by
    have := List.take_append_drop i (L.take j)
    rw [List.take_take, Nat.min_eq_left hij] at this
    exact this
  rw [h1, List.take_append_drop]
theorem seg_join {L : List MPkt} {i j k : Nat} (hij : i ≤ j) (hjk : j ≤ k) : seg L i k = seg L i j ++ seg L j k := by
  apply List.ext_getElem?
  intro q
  rcases Nat.lt_or_ge q (seg L i j).length with h | h
  · rw [List.getElem?_append_left h, seg_get, seg_get]
    have h1 : (seg L i j).length ≤ j - i := by unfold seg; rw [List.length_drop, List.length_take]; omega
    rw [if_pos (show i + q < j by omega), if_pos (show i + q < k by omega)]
  · rw [List.getElem?_append_right h, seg_get, seg_get]
    rcases Nat.lt_or_ge L.length j with h2 | h2
    · have h1 : (seg L i j).length = L.length - i := by unfold seg; rw [List.length_drop, List.length_take]; omega
      have e1 : L[i + q]? = none := List.getElem?_eq_none (by omega)
      have e2 : L[j + (q - (seg L i j).length)]? = none := List.getElem?_eq_none (by omega)
      rw [e1, e2]
      simp
    · have h1 := seg_len (i := i) h2
      rw [h1]
      rw [h1] at h
      rw [show j + (q - (j - i)) = i + q by omega]
theorem srt_seg {L : List MPkt} {i j j' : Nat} (h : SrtF (seg L i j)) (hj : L.length ≤ j) : SrtF (seg L i j') := by
  have e : seg L i j = L.drop i := by unfold seg; rw [List.take_of_length_le hj]
  rw [e] at h
  unfold seg
  exact h.sublist ((List.take_sublist j' L).drop i)
/-- the blocks of k that begin from lo on, below hi, are sorted -/
def Srt (k lo hi : Nat) (L : List MPkt) : Prop := ∀ i, lo ≤ k * i → k * i < hi → SrtF (seg L (k * i) (k * i + k))
theorem Srt.put {k lo hi : Nat} {X A A' Y : List MPkt} (h : Srt k lo hi (X ++ A ++ Y)) (hl : A'.length = A.length) (hs : ∀ i, lo ≤ k * i → k * i < hi → k * i + k ≤ X.length ∨ X.length + A.length ≤ k * i) : Srt k lo hi (X ++ A' ++ Y) := fun i h1 h2 => by
  rw [seg_keep hl (hs i h1 h2)]
  exact h i h1 h2
theorem mul_step {k i j : Nat} (h : k * i < k * j) : k * i + k ≤ k * j := by
  have h1 : i < j := Nat.lt_of_mul_lt_mul_left h
  have h2 := Nat.mul_le_mul_left k (show i + 1 ≤ j from h1)
  rw [Nat.mul_add, Nat.mul_one] at h2
  exact h2
theorem Srt.snoc {k j : Nat} {L : List MPkt} (h : Srt k 0 (k * j) L) (h1 : SrtF (seg L (k * j) (k * j + k))) : Srt k 0 (k * j + k) L := fun i _ h3 => by
  rcases Nat.lt_or_ge (k * i) (k * j) with h4 | h4
  · exact h i (Nat.zero_le _) h4
  · have h5 : k * i < k * (j + 1) := by rw [Nat.mul_add, Nat.mul_one]; exact h3
    have h6 : i < j + 1 := Nat.lt_of_mul_lt_mul_left h5
    have h7 : k * i = k * j := by
      have := Nat.mul_le_mul_left k (show i ≤ j by omega)
      omega
    rw [h7]
    exact h1
theorem cut3 {L : List MPkt} {a b : Nat} (hab : a ≤ b) (hb : b ≤ L.length) : ∃ X A Y, L = X ++ A ++ Y ∧ X.length = a ∧ A.length = b - a ∧ Y.length = L.length - b :=
  ⟨seg L 0 a, seg L a b, L.drop b, seg_cut hab, by rw [seg_len (by omega)]; omega, seg_len hb, by rw [List.length_drop]⟩
theorem seg_at {X A Y : List MPkt} {a b : Nat} (ha : X.length = a) (hb : a + A.length = b ∨ (Y = [] ∧ a + A.length ≤ b)) : seg (X ++ A ++ Y) a b = A := by
  rcases hb with hb | ⟨rfl, hb⟩
  · rw [← hb, ← ha]; exact seg_mid X A Y
  · rw [List.append_nil]
    unfold seg
    rw [List.take_of_length_le (by rw [List.length_append]; omega), ← ha, List.drop_left]
/-- a block more -/
theorem blk_step {X A A' Y : List MPkt} {k j : Nat} (hX : X.length = k * j) (hA : A.length = k ∨ (Y = [] ∧ A.length ≤ k)) (h : Srt k 0 (k * j) (X ++ A ++ Y)) (hq : StQ A A') (hs : SrtF A') :
    StQ (X ++ A ++ Y) (X ++ A' ++ Y) ∧ Srt k 0 (k * j + k) (X ++ A' ++ Y) := by
  have hl := hq.len
  refine ⟨((StQ.refl X).app hq).app (StQ.refl Y), ?_⟩
  refine Srt.snoc (Srt.put h hl fun i _ h3 => .inl (by rw [hX]; exact mul_step h3)) ?_
  rw [seg_at hX (by rw [hl]; rcases hA with h | ⟨h, h'⟩; exact .inl (by omega); exact .inr ⟨h, by omega⟩)]
  exact hs
theorem two_mul' (k j : Nat) : 2 * k * j = k * (2 * j) := by rw [Nat.mul_comm 2 k, Nat.mul_assoc]
/-- both halves of a pair -/
theorem pair_in {X A B Y : List MPkt} {k j : Nat} (hX : X.length = 2 * k * j) (hA : A.length = k) (hB : B.length = k ∨ (Y = [] ∧ B.length ≤ k)) (hA0 : 0 < A.length) (hB0 : 0 < B.length)
    (h : Srt k (2 * k * j) (X ++ A ++ B ++ Y).length (X ++ A ++ B ++ Y)) : SrtF A ∧ SrtF B := by
  have hl : (X ++ A ++ B ++ Y).length = 2 * k * j + k + B.length + Y.length := by simp only [List.length_append]; omega
  have e1 : 2 * k * j + k = k * (2 * j + 1) := by rw [Nat.mul_add, two_mul', Nat.mul_one]
  constructor
  · have h1 := h (2 * j) (by rw [two_mul']; exact Nat.le_refl _) (by rw [hl, ← two_mul']; omega)
    rw [← two_mul', show X ++ A ++ B ++ Y = X ++ A ++ (B ++ Y) by simp, seg_at hX (.inl (by rw [hA]))] at h1
    exact h1
  · have h1 := h (2 * j + 1) (by rw [← e1]; omega) (by rw [hl, ← e1]; omega)
    rw [← e1, seg_at (by rw [List.length_append, hX, hA]) (by rcases hB with h | ⟨h, h'⟩; exact .inl (by omega); exact .inr ⟨h, by omega⟩)] at h1
    exact h1
/-- a pair merged -/
theorem pair_step {X A B S Y : List MPkt} {k j N : Nat} (hX : X.length = 2 * k * j) (hA : A.length = k) (hB : B.length = k ∨ (Y = [] ∧ B.length ≤ k)) (h1 : Srt (2 * k) 0 (2 * k * j) (X ++ A ++ B ++ Y)) (h2 : Srt k (2 * k * j) N (X ++ A ++ B ++ Y)) (hm : Mrg A B S) :
    StQ (X ++ A ++ B ++ Y) (X ++ S ++ Y) ∧ Srt (2 * k) 0 (2 * k * j + 2 * k) (X ++ S ++ Y) ∧ Srt k (2 * k * j + 2 * k) N (X ++ S ++ Y) := by
  have e : X ++ A ++ B ++ Y = X ++ (A ++ B) ++ Y := by simp
  have hl := hm.2.len
  rw [e] at h1 h2 ⊢
  have h3 := blk_step hX (by rw [List.length_append]; rcases hB with h | ⟨h, h'⟩; exact .inl (by omega); exact .inr ⟨h, by omega⟩) h1 hm.2 hm.1
  refine ⟨h3.1, h3.2, Srt.put (fun i h4 h5 => h2 i (by omega) h5) hl fun i h4 _ => .inr ?_⟩
  rw [List.length_append] at hl ⊢
  rcases hB with h | ⟨_, h⟩ <;> omega
theorem Srt.none {k lo hi : Nat} {L : List MPkt} (h : hi ≤ lo) : Srt k lo hi L := fun i h1 h2 => by omega
theorem Srt.less {k lo hi hi' : Nat} {L : List MPkt} (h : Srt k lo hi L) (hh : hi' ≤ hi) : Srt k lo hi' L := fun i h1 h2 => h i h1 (by omega)
/-- what remains, if it is one block at most -/
theorem Srt.tail {k j N : Nat} {L : List MPkt} (hN : L.length = N) (h1 : Srt (2 * k) 0 (2 * k * j) L) (h2 : Srt k (2 * k * j) N L) (h : N ≤ 2 * k * j + k) : Srt (2 * k) 0 N L := by
  rcases Nat.lt_or_ge (2 * k * j) N with h3 | h3
  · have h4 := h2 (2 * j) (by rw [two_mul']; exact Nat.le_refl _) (by rw [← two_mul']; exact h3)
    rw [← two_mul'] at h4
    exact (h1.snoc (srt_seg h4 (by omega))).less (by omega)
  · exact h1.less h3
theorem Srt.whole {k : Nat} {L : List MPkt} (h : Srt k 0 L.length L) (hk : L.length ≤ k) : SrtF L := by
  rcases Nat.eq_zero_or_pos L.length with h0 | h0
  · rw [List.eq_nil_of_length_eq_zero h0]; exact srt_nil
  · have h1 := h 0 (Nat.zero_le _) (by omega)
    rw [Nat.mul_zero, Nat.zero_add] at h1
    unfold seg at h1
    rwa [List.drop_zero, List.take_of_length_le hk] at h1
/-! ### the walk -/
def FstR (L0 : List MPkt) (d a : Nat) (w : World) : Prop := ∃ L j, a = 20 * j ∧ StQ L0 L ∧ Srt 20 0 a L ∧ OwnP w d L
def MrgR (L0 : List MPkt) (d k : Nat) (w : World) : Prop := ∃ L, StQ L0 L ∧ Srt k 0 L0.length L ∧ OwnP w d L
def PairR (L0 : List MPkt) (d k a : Nat) (w : World) : Prop := ∃ L j, a = 2 * k * j ∧ StQ L0 L ∧ Srt (2 * k) 0 a L ∧ Srt k a L0.length L ∧ OwnP w d L
section
variable {n0 d : Nat}
set_option maxRecDepth 100000 in
set_option maxHeartbeats 4000000 in
theorem stableP_any (L0 : List MPkt) (N cap : Nat) (w : World) (ho : OwnP w d L0) (hd : n0 ≤ d) (hN : L0.length = N) (hn : N ≤ 1000000) :
    Calls Try.prog 122 #[.slice (some ⟨d, 0, none⟩) N cap, .int .i64 (N : Int), .func (.func 113) #[] #[]] w fun e w' => e = .returned (.tuple #[]) ∧ (∃ L, (StQ L0 L ∧ SrtF L) ∧ OwnP w' d L) ∧ OnlyB d w w' := by
  have HI : Hid (∀ (a b : Nat) (W : World), OnlyB d w W → FstR L0 d a W → a + 20 = b → b ≤ N → Calls Try.prog 132 #[.slice (some ⟨d, 0, none⟩) N cap, .int .i64 (a : Int), .int .i64 (b : Int), .func (.func 113) #[] #[]] W fun e w' => e = .returned (.tuple #[]) ∧ FstR L0 d b w' ∧ OnlyB d w w') := fun a b W hW h hab hbN => by
    obtain ⟨L, j, ha, hq, hs, hO⟩ := h
    have hLN : L.length = N := by rw [hq.len, hN]
    obtain ⟨X, A, Y, rfl, hX, hA, _⟩ := cut3 (L := L) (show a ≤ b by omega) (by omega)
    refine (insertP_any X A Y N a b cap W hO hd hLN hn hX (by omega)).mono fun e w' ⟨he, ⟨A', ⟨hq2, hs2⟩, hO2⟩, hb2⟩ => ⟨he, ?_, hW.trans hb2⟩
    have := blk_step (X := X) (A := A) (Y := Y) (k := 20) (j := j) (by omega) (.inl (by omega)) (by rw [← ha]; exact hs) hq2 hs2
    exact ⟨_, j + 1, by omega, hq.trans this.1, by rw [show b = 20 * j + 20 by omega]; exact this.2, hO2⟩
  have HJ : Hid (∀ (a : Nat) (W : World), OnlyB d w W → FstR L0 d a W → a ≤ N → N < a + 20 → Calls Try.prog 132 #[.slice (some ⟨d, 0, none⟩) N cap, .int .i64 (a : Int), .int .i64 (N : Int), .func (.func 113) #[] #[]] W fun e w' => e = .returned (.tuple #[]) ∧ MrgR L0 d 20 w' ∧ OnlyB d w w') := fun a W hW h haN hab => by
    obtain ⟨L, j, ha, hq, hs, hO⟩ := h
    have hLN : L.length = N := by rw [hq.len, hN]
    obtain ⟨X, A, Y, rfl, hX, hA, hY⟩ := cut3 (L := L) (show a ≤ N by omega) (by omega)
    obtain rfl : Y = [] := List.eq_nil_of_length_eq_zero (by omega)
    refine (insertP_any X A [] N a N cap W hO hd hLN hn hX (by omega)).mono fun e w' ⟨he, ⟨A', ⟨hq2, hs2⟩, hO2⟩, hb2⟩ => ⟨he, ?_, hW.trans hb2⟩
    have := blk_step (X := X) (A := A) (Y := []) (k := 20) (j := j) (by omega) (.inr ⟨rfl, by omega⟩) (by rw [← ha]; exact hs) hq2 hs2
    exact ⟨_, hq.trans this.1, this.2.less (by omega), hO2⟩
  have HM : Hid (∀ (k a m b : Nat) (W : World), OnlyB d w W → PairR L0 d k a W → 0 < k → a + k = m → m + k = b → b ≤ N → Calls Try.prog 133 #[.slice (some ⟨d, 0, none⟩) N cap, .int .i64 (a : Int), .int .i64 (m : Int), .int .i64 (b : Int), .func (.func 113) #[] #[]] W fun e w' => e = .returned (.tuple #[]) ∧ PairR L0 d k b w' ∧ OnlyB d w w') := fun k a m b W hW h hk hm hb hbN => by
    obtain ⟨L, j, ha, hq, hs, hs2, hO⟩ := h
    have hLN : L.length = N := by rw [hq.len, hN]
    obtain ⟨X, C, Y, rfl, hX, hC, _⟩ := cut3 (L := L) (show a ≤ b by omega) (by omega)
    obtain ⟨A, B, rfl, hA, hB⟩ : ∃ A B, C = A ++ B ∧ A.length = k ∧ B.length = k := ⟨C.take k, C.drop k, (List.take_append_drop _ _).symm, by rw [List.length_take]; omega, by rw [List.length_drop]; omega⟩
    have e : X ++ (A ++ B) ++ Y = X ++ A ++ B ++ Y := by simp
    rw [e] at hq hs hs2 hO hLN
    have hAB := pair_in (X := X) (A := A) (B := B) (Y := Y) (k := k) (j := j) (by omega) hA (.inl hB) (by omega) (by omega) (by rw [hLN, ← hN, ← ha]; exact hs2)
    refine (symMerge_any N cap hd hn (A.length + B.length) X A B Y a m b W (Nat.le_refl _) hO hLN hX (by omega) (by omega) (by omega) (by omega) hAB.1 hAB.2).mono fun e w' ⟨he, ⟨S, hS, hO2⟩, hb2⟩ => ⟨he, ?_, hW.trans hb2⟩
    have := pair_step (X := X) (A := A) (B := B) (Y := Y) (k := k) (j := j) (by omega) hA (.inl hB) (by rw [← ha]; exact hs) (by rw [← ha]; exact hs2) hS
    have e2 : 2 * k * j + 2 * k = b := by omega
    rw [e2] at this
    exact ⟨_, j + 1, by rw [Nat.mul_add, Nat.mul_one]; omega, hq.trans this.1, this.2.1, this.2.2, hO2⟩
  have HT : Hid (∀ (k a m : Nat) (W : World), OnlyB d w W → PairR L0 d k a W → 0 < k → a + k = m → m < N → N < m + k → Calls Try.prog 133 #[.slice (some ⟨d, 0, none⟩) N cap, .int .i64 (a : Int), .int .i64 (m : Int), .int .i64 (N : Int), .func (.func 113) #[] #[]] W fun e w' => e = .returned (.tuple #[]) ∧ MrgR L0 d (2 * k) w' ∧ OnlyB d w w') := fun k a m W hW h hk hm hmN hNb => by
    obtain ⟨L, j, ha, hq, hs, hs2, hO⟩ := h
    have hLN : L.length = N := by rw [hq.len, hN]
    obtain ⟨X, C, Y, rfl, hX, hC, hY⟩ := cut3 (L := L) (show a ≤ N by omega) (by omega)
    obtain rfl : Y = [] := List.eq_nil_of_length_eq_zero (by omega)
    obtain ⟨A, B, rfl, hA, hB⟩ : ∃ A B, C = A ++ B ∧ A.length = k ∧ B.length = N - m := ⟨C.take k, C.drop k, (List.take_append_drop _ _).symm, by rw [List.length_take]; omega, by rw [List.length_drop]; omega⟩
    have e : X ++ (A ++ B) ++ [] = X ++ A ++ B ++ [] := by simp
    rw [e] at hq hs hs2 hO hLN
    have hAB := pair_in (X := X) (A := A) (B := B) (Y := []) (k := k) (j := j) (by omega) hA (.inr ⟨rfl, by omega⟩) (by omega) (by omega) (by rw [hLN, ← hN, ← ha]; exact hs2)
    refine (symMerge_any N cap hd hn (A.length + B.length) X A B [] a m N W (Nat.le_refl _) hO hLN hX (by omega) (by omega) (by omega) (by omega) hAB.1 hAB.2).mono fun e w' ⟨he, ⟨S, hS, hO2⟩, hb2⟩ => ⟨he, ?_, hW.trans hb2⟩
    have := pair_step (X := X) (A := A) (B := B) (Y := []) (k := k) (j := j) (by omega) hA (.inr ⟨rfl, by omega⟩) (by rw [← ha]; exact hs) (by rw [← ha]; exact hs2) hS
    exact ⟨_, hq.trans this.1, this.2.1.less (by omega), hO2⟩
  have HE : Hid (∀ (k a m : Nat) (W : World), PairR L0 d k a W → a + k = m → N ≤ m → MrgR L0 d (2 * k) W) := fun k a m W h hm hN2 => by
    obtain ⟨L, j, ha, hq, hs, hs2, hO⟩ := h
    subst ha
    exact ⟨L, hq, by rw [hN] at hs2 ⊢; exact Srt.tail (by rw [hq.len, hN]) hs hs2 (by omega), hO⟩
  have HS : Hid (∀ (k : Nat) (W : World), MrgR L0 d k W → PairR L0 d k 0 W) := fun k W h => by
    obtain ⟨L, hq, hs, hO⟩ := h
    exact ⟨L, 0, rfl, hq, Srt.none (Nat.le_refl _), hs, hO⟩
  have HF : Hid (∀ (k : Nat) (W : World), MrgR L0 d k W → N ≤ k → ∃ L, (StQ L0 L ∧ SrtF L) ∧ OwnP W d L) := fun k W h hk => by
    obtain ⟨L, hq, hs, hO⟩ := h
    exact ⟨L, ⟨hq, Srt.whole (by rw [hq.len]; exact hs) (by rw [hq.len]; omega)⟩, hO⟩
  have H0 : Hid (FstR L0 d 0 w) := ⟨L0, 0, rfl, .refl _, Srt.none (Nat.le_refl _), ho⟩
  have HB : Hid (OnlyB d w w) := OnlyB.refl _ _
  clear ho hd hN
  go_enter Try.func122, Try.ntmps122
  go_wp2_with fail
  go_loopw [7, 8] (fun va vb wr => ∃ a b : Nat, va = .int .i64 a ∧ vb = .int .i64 b ∧ (a + 20 = b ∧ a ≤ N) ∧ Hid (FstR L0 d a wr) ∧ Hid (OnlyB d w wr)) (fun va _ _ => N - (intOf va).toNat)
  case atStart => exact ⟨0, 20, rfl, rfl, ⟨rfl, Nat.zero_le _⟩, H0, HB⟩
  case round =>
    clear H0 HB
    obtain ⟨a, b, rfl, rfl, hab, HR, HB⟩ := hrel
    rename World => wr
    by_cases hlt : b ≤ N
    · have HC := Lib.hid (HI.out a b wr HB.out HR.out hab.1 hlt)
      go_wp2_with (go_at_call 132; refine HC.out.mono ?_; rintro e w2 ⟨rfl, hr2, hb2⟩; have HR2 := Lib.hid hr2; have HB2 := Lib.hid hb2; clear hr2 hb2)
      go_roundw
      case rel => exact ⟨b, b + 20, rfl, by go_num, ⟨rfl, hlt⟩, HR2, HB2⟩
      case measure => simp [intOf]; omega
    · have HC := Lib.hid (HJ.out a wr HB.out HR.out hab.2 (by omega))
      go_wp2_with (go_at_call 132; refine HC.out.mono ?_; rintro e w2 ⟨rfl, hr2, hb2⟩; have HR2 := Lib.hid hr2; have HB2 := Lib.hid hb2; clear hr2 hb2)
      clear HR HB HC HI HJ
      go_loopw [6, 7, 8, 9] (fun vk va vb vm wx => ∃ k : Nat, vk = .int .i64 k ∧ (1 ≤ k ∧ k ≤ 2000020) ∧ Hid (MrgR L0 d k wx) ∧ Hid (OnlyB d w wx)) (fun vk _ _ _ _ => N - (intOf vk).toNat)
      case atStart => exact ⟨20, rfl, ⟨by omega, by omega⟩, HR2, HB2⟩
      case round =>
        clear HR2 HB2
        obtain ⟨k, rfl, hk, HR, HB⟩ := hrel
        rename World => wx
        by_cases hlt2 : k < N
        · have HP := Lib.hid (HS.out k wx HR.out)
          obtain ⟨K, hK⟩ : ∃ K, 2 * k = K := ⟨_, rfl⟩
          have c0 : (2 : Int) * (k : Int) = (K : Int) := by omega
          have c1 : (k : Int) * 2 = (K : Int) := by omega
          have HKK := Lib.hid hK
          have hK2 : K ≤ 2000000 ∧ k < K := by omega
          clear hK HR
          go_wp2_with fail
          go_loopw [7, 8] (fun va vb wy => ∃ a b : Nat, va = .int .i64 a ∧ vb = .int .i64 b ∧ (a + K = b ∧ a ≤ N) ∧ Hid (PairR L0 d k a wy) ∧ Hid (OnlyB d w wy)) (fun va _ _ => N - (intOf va).toNat)
          case atStart => exact ⟨0, K, rfl, rfl, ⟨by omega, by omega⟩, HP, HB⟩
          case round =>
            clear HP HB
            obtain ⟨a, b, rfl, rfl, hab, HR, HB⟩ := hrel
            rename World => wy
            obtain ⟨m, hm⟩ : ∃ m, a + k = m := ⟨_, rfl⟩
            have hmm : m + k = b ∧ a ≤ m := by have := HKK.out; omega
            by_cases hlt3 : b ≤ N
            · have HC := Lib.hid (HM.out k a m b wy HB.out HR.out (by omega) hm hmm.1 hlt3)
              have c2 : ((a : Int) + (k : Int)) = (m : Int) := by omega
              clear hm
              go_wp2_with (go_at_call 133; refine HC.out.mono ?_; rintro e w2 ⟨rfl, hr2, hb2⟩; have HR2 := Lib.hid hr2; have HB2 := Lib.hid hb2; clear hr2 hb2)
              go_roundw
              case rel => exact ⟨b, b + K, rfl, by go_num, ⟨rfl, hlt3⟩, HR2, HB2⟩
              case measure => simp [intOf]; omega
            · have HMM := Lib.hid hm
              have c2 : ((a : Int) + (k : Int)) = (m : Int) := by omega
              clear hm
              by_cases hlt4 : m < N
              · have HC := Lib.hid (HT.out k a m wy HB.out HR.out (by omega) HMM.out hlt4 (by omega))
                go_wp2_with (go_at_call 133; refine HC.out.mono ?_; rintro e w2 ⟨rfl, hr2, hb2⟩; have HR2 := Lib.hid hr2; have HB2 := Lib.hid hb2; clear hr2 hb2)
                go_roundw
                case rel => exact ⟨K, by go_num, ⟨by omega, by omega⟩, by rw [← HKK.out]; exact HR2, HB2⟩
                case measure => simp [intOf]; omega
              · have HR2 := Lib.hid (HE.out k a m wy HR.out HMM.out (by omega))
                go_wp2_with fail
                go_roundw
                case rel => exact ⟨K, by go_num, ⟨by omega, by omega⟩, by rw [← HKK.out]; exact HR2, HB⟩
                case measure => simp [intOf]; omega
        · have HQ := Lib.hid (HF.out k wx HR.out (by omega))
          go_wp2_with fail
          go_end0
          exact ⟨rfl, HQ.out, HB.out⟩
set_option maxRecDepth 100000 in
set_option maxHeartbeats 4000000 in
theorem sortP_any (L0 : List MPkt) (N cap : Nat) (w : World) (ho : OwnP w d L0) (hd : n0 ≤ d) (hN : L0.length = N) (hn : N ≤ 1000000) :
    Calls Try.prog 112 #[.slice (some ⟨d, 0, none⟩) N cap, .func (.func 113) #[] #[]] w fun e w' => e = .returned (.tuple #[]) ∧ (∃ L, (StQ L0 L ∧ SrtF L) ∧ OwnP w' d L) ∧ OnlyB d w w' := by
  have HC := Lib.hid (stableP_any L0 N cap w ho hd hN hn)
  clear ho hd hN
  go_enter Try.func112, Try.ntmps112
  go_wp2_with (go_at_call 122; refine HC.out.mono ?_; rintro e w2 ⟨rfl, hr2, hb2⟩)
  go_end0
  exact ⟨rfl, hr2, hb2⟩
end
/-- the sort of nothing -/
theorem insert_none (A : Option Addr) (cap : Nat) (f : Value) (w : World) : Calls Try.prog 132 #[.slice A 0 cap, .int .i64 0, .int .i64 0, f] w fun e w' => e = .returned (.tuple #[]) ∧ w' = w := by
  go_enter Try.func132, Try.ntmps132
  go_wp2_with fail
  refine wp_loop_rounds 1 ?_
  rw [rounds_succ]
  go_wp2_with fail
  go_end0
  exact ⟨rfl, rfl⟩
theorem sort_none (A : Option Addr) (cap : Nat) (w : World) : Calls Try.prog 112 #[.slice A 0 cap, .func (.func 113) #[] #[]] w fun e w' => e = .returned (.tuple #[]) ∧ w' = w := by
  have H1 := Lib.hid (insert_none A cap (.func (.func 113) #[] #[]) w)
  have HC : Hid (Calls Try.prog 122 #[.slice A 0 cap, .int .i64 0, .func (.func 113) #[] #[]] w fun e w' => e = .returned (.tuple #[]) ∧ w' = w) := by
    show Calls _ _ _ _ _
    go_enter Try.func122, Try.ntmps122
    go_wp2_with fail
    refine wp_loop_rounds 1 ?_
    rw [rounds_succ]
    go_wp2_with (go_at_call 132; refine H1.out.mono ?_; rintro e w2 ⟨rfl, rfl⟩)
    refine wp_loop_rounds 1 ?_
    rw [rounds_succ]
    go_wp2_with fail
    go_end0
    exact ⟨rfl, rfl⟩
  clear H1
  go_enter Try.func112, Try.ntmps112
  go_wp2_with (go_at_call 122; refine HC.out.mono ?_; rintro e w2 ⟨rfl, rfl⟩)
  go_end0
  exact ⟨rfl, rfl⟩
end Go.Proofs.Ytlbbhlkbhegegaa
