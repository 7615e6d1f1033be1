/- Walks: bus.CheckSlots. -/
import Derived.Test.YtlbbhlkbhegegaaSl2
import Derived.Deep.RegionHeld3
import Derived.Deep.DeepCutAuto
namespace Go.Proofs.Ytlbbhlkbhegegaa
open Go.RowKit

def pairAt (l : List MGate) (i : Nat) : MGate := l.getD i ⟨0, 0⟩
theorem pairAt_of {l : List MGate} {i : Nat} {g : MGate} (h : l[i]? = some g) : pairAt l i = g := by
  unfold pairAt; rw [List.getD_eq_getElem?_getD, h]; rfl
def rangeOk (S : Int) (m l : List MGate) (i : Nat) : Bool := inB (pairAt l i).rate 0 (S - 1) && inB (pairAt l i).delay 0 ((pairAt m i).delay - 1)
def pairOk (m l : List MGate) (i k : Nat) : Bool := !clashB (pairAt m i) (pairAt m k) (pairAt l i) (pairAt l k)
def rowOk (m l : List MGate) (i : Nat) : Bool := (List.range i).all (pairOk m l i)
def slotsS (S C : Int) (m l : List MGate) : Int :=
  if slottedB S C m = false then 43 else if l.length ≠ m.length then 1 else if (List.range l.length).all (rangeOk S m l) = false then 1 else if (List.range l.length).all (rowOk m l) = false then 44 else 0
theorem slots_43 {S C : Int} {m l : List MGate} (h : slottedB S C m = false) : slotsS S C m l = 43 := by unfold slotsS; rw [if_pos h]
theorem slots_1 {S C : Int} {m l : List MGate} (h : slottedB S C m = true) (hl : l.length ≠ m.length) : slotsS S C m l = 1 := by unfold slotsS; rw [if_neg (by rw [h]; simp), if_pos hl]
theorem slots_1' {S C : Int} {m l : List MGate} (h : slottedB S C m = true) (hl : l.length = m.length) {i : Nat} (hi : i < l.length) (hr : rangeOk S m l i = false) : slotsS S C m l = 1 := by
  unfold slotsS; rw [if_neg (by rw [h]; simp), if_neg (by simpa using hl), if_pos (range_no hi hr)]
theorem slots_44 {S C : Int} {m l : List MGate} (h : slottedB S C m = true) (hl : l.length = m.length) (ha : ∀ i, i < l.length → rangeOk S m l i = true) {i k : Nat} (hi : i < l.length) (hk : k < i) (hr : pairOk m l i k = false) : slotsS S C m l = 44 := by
  unfold slotsS; rw [if_neg (by rw [h]; simp), if_neg (by simpa using hl), if_neg (by rw [range_yes ha]; simp), if_pos (range_no hi (range_no hk hr))]
theorem slots_0 {S C : Int} {m l : List MGate} (h : slottedB S C m = true) (hl : l.length = m.length) (ha : ∀ i, i < l.length → rangeOk S m l i = true) (hp : ∀ i, i < l.length → rowOk m l i = true) : slotsS S C m l = 0 := by
  unfold slotsS; rw [if_neg (by rw [h]; simp), if_neg (by simpa using hl), if_neg (by rw [range_yes ha]; simp), if_neg (by rw [range_yes hp]; simp)]
theorem slotted_parts {S C : Int} {m : List MGate} (h : slottedB S C m = true) : (1 ≤ S ∧ S ≤ 30) ∧ (1 ≤ C ∧ C ≤ 64) ∧ m.length ≤ 60 ∧ ∀ (i : Nat) (g : MGate), m[i]? = some g → (0 ≤ g.rate ∧ g.rate ≤ 1000) ∧ 1 ≤ g.delay ∧ g.delay ≤ C := by
  unfold slottedB at h
  simp only [Bool.and_eq_true, List.all_eq_true] at h
  refine ⟨inB_iff.1 h.1.1.1, powB_le h.1.1.2, of_decide_eq_true h.1.2, fun i g hg => ?_⟩
  have h1 := h.2 g (List.mem_of_getElem? hg)
  unfold msgB at h1
  rw [Bool.and_eq_true] at h1
  exact ⟨inB_iff.1 h1.1, powB_le h1.2⟩
theorem clashB_false {a b x y : MGate} (h : x.rate ≠ y.rate) : clashB a b x y = false := by
  unfold clashB; rw [show (x.rate == y.rate) = false by simpa using h]; rfl
theorem clashB_true {a b x y : MGate} (h : x.rate = y.rate) (h2 : a.rate ≠ b.rate) : clashB a b x y = true := by
  unfold clashB; rw [show (x.rate == y.rate) = true by simpa using h, show (a.rate != b.rate) = true by simpa using h2]; rfl
theorem clashB_mod {a b x y : MGate} (h : x.rate = y.rate) (h2 : a.rate = b.rate) : clashB a b x y = (x.delay % minI a.delay b.delay == y.delay % minI a.delay b.delay) := by
  unfold clashB; rw [show (x.rate == y.rate) = true by simpa using h, show (a.rate != b.rate) = false by simpa using h2]; rfl

set_option maxRecDepth 100000 in
set_option maxHeartbeats 2000000 in
theorem checkSlots_any (S C : Int) (A L : Option Addr) (cap lcap : Nat) (m l : List MGate) (w : World) (h : GatesA w w.heap.size A m) (hm : m.length ≤ maxLen) (hG : GatesA w w.heap.size L l) (hlm : l.length ≤ maxLen) (hlc : l.length ≤ lcap) :
    Calls Try.prog 33 #[.agg #[.int .i64 S, .int .i64 C, .slice A m.length cap], .slice L l.length lcap] w fun e w' => e = .returned (.int .i64 (slotsS S C m l)) ∧ Below w.heap.size w w' := by
  have hE := SEnv.make (S := S) (C := C) (cap := cap) (t := 54) h
  have hm' := hm
  have hlm' := hlm
  unfold maxLen at hm' hlm'
  clear h
  have HC : Hid (∀ w1, Below (w.heap.size + 1) (w.alloc (.cells #[.int .i64 S, .int .i64 C, .slice A m.length cap] 54)) w1 → Calls Try.prog 72 #[.agg #[.int .i64 S, .int .i64 C, .slice A m.length cap]] w1 fun e w' => e = .returned (.int .i64 (slottedE S C m)) ∧ Below w1.heap.size w1 w') := fun w1 hb => slotted_any S C A cap m w1 ((hE.below hb (by omega)).msgs.more (by have := (hE.below hb (by omega)).size; omega)) hm
  rcases hv : slottedB S C m
  · have HZ := Lib.hid (slots_43 (l := l) hv)
    rw [slotted_no hv] at HC
    clear hv
    go_enter Try.func33, Try.ntmps33
    go_wp2_with (go_at_call 72; refine (HC.out _ (Below.refl _ _)).mono ?_; rintro e w2 ⟨rfl, hb2⟩)
    go_ret
    exact ⟨ret_i HZ.out.symm, hE.old.trans (hb2.mono (by simp))⟩
  rw [slotted_yes hv] at HC
  have HV := Lib.hid hv
  have hpt := slotted_parts hv
  have hS := hpt.1
  have hCC := hpt.2.1
  have hm60 := hpt.2.2.1
  have HPT := Lib.hid hpt.2.2.2
  clear hv hpt
  have hs1 : (w.alloc (.cells #[.int .i64 S, .int .i64 C, .slice A m.length cap] 54)).heap.size = w.heap.size + 1 := by simp
  by_cases hll : l.length = m.length
  rotate_left
  · have HZ := Lib.hid (slots_1 HV.out hll)
    have hl0 : ((l.length : Int) != (m.length : Int)) = true := by rw [bne_iff_ne]; omega
    clear hll hs1
    go_enter Try.func33, Try.ntmps33
    go_wp2_with (go_at_call 72; refine (HC.out _ (Below.refl _ _)).mono ?_; rintro e w2 ⟨rfl, hb2⟩; have q2 := (hE.below hb2 (by simp)).c2)
    go_ret
    exact ⟨ret_i HZ.out.symm, hE.old.trans (hb2.mono (by simp))⟩
  have HLL := Lib.hid hll
  have hl0 : ((l.length : Int) != (m.length : Int)) = false := by rw [bne_eq_false_iff_eq]; omega
  have hll1 : l.length ≤ m.length := by omega
  have hll2 : m.length ≤ l.length := by omega
  clear hll
  go_enter Try.func33, Try.ntmps33
  go_wp2_with (go_at_call 72; refine (HC.out _ (Below.refl _ _)).mono ?_; rintro e w2 ⟨rfl, hb2⟩; have q2 := (hE.below hb2 (by simp)).c2)
  have hE2 := hE.below hb2 (by simp)
  have hG2 : GatesA w2 w.heap.size L l := hG.below hE2.old (Nat.le_refl _)
  clear hE hb2 hs1 q2 HC hG
  go_loopw [4, 27] (fun v i wr => v = .int .i64 0 ∧ ∃ k : Nat, k ≤ l.length ∧ i = .int .i64 k ∧ Hid (∀ j, j < k → rangeOk S m l j = true) ∧ Below w2.heap.size w2 wr) (fun _ i _ => l.length - (intOf i).toNat)
  case atStart => exact ⟨rfl, 0, Nat.zero_le _, rfl, fun j h => by omega, Below.refl _ _⟩
  case round =>
    obtain ⟨rfl, k, hk, rfl, HI, hbw⟩ := hrel
    have hEr := hE2.below hbw hE2.size
    have hsz := hbw.size
    by_cases hlt : k < l.length
    · obtain ⟨x, b, off, hx, rfl, hb, c0, c1⟩ := (hG2.below (hbw.mono (B' := w.heap.size) (Nat.le_of_lt hE2.size)) (Nat.le_refl _)).at_ hlt
      have HX := Lib.hid (pairAt_of hx)
      have hb1 : Below w2.heap.size wr (wr.alloc (.cells #[.int .i64 x.rate, .int .i64 x.delay] 96)) := (Below.refl _ _).alloc hsz _
      have hE1 := hEr.below hb1 hE2.size
      obtain ⟨a, b', off', ha, rfl, hb', d0, d1⟩ := hE1.msgs.at_ (show k < m.length by omega)
      have HA := Lib.hid (pairAt_of ha)
      have hap := HPT.out k a ha
      have q0 := hE1.c0
      have q2 := hE1.c2
      have n0 := newcell wr #[.int .i64 x.rate, .int .i64 x.delay] 96 0
      have n1 := newcell wr #[.int .i64 x.rate, .int .i64 x.delay] 96 1
      simp only [List.getElem?_toArray, List.getElem?_cons_succ, List.getElem?_cons_zero] at n0 n1
      clear hx ha hEr hE1
      go_wp2_with fail
      generalize hW : wr.alloc (.cells #[.int .i64 x.rate, .int .i64 x.delay] 96) = w3 at *
      clear hW c0 c1
      have e0 : IntKind.i64.wrap (S - 1) = S - 1 := IntWalk.i64_in _ (by omega)
      have e1 : IntKind.i64.wrap (a.delay - 1) = a.delay - 1 := IntWalk.i64_in _ (by omega)
      rcases h4 : inB x.rate 0 (S - 1)
      · have H4 := Lib.hid h4
        clear h4
        go_quiet ((go_at_call 67; exact quiet_w (within_b _ _ _ _ _ H4.out)))
        go_wp2_with fail
        go_ret
        exact ⟨ret_i (slots_1' HV.out HLL.out hlt (by unfold rangeOk; rw [HX.out, H4.out]; rfl)).symm, hE2.old.trans ((bdrew' (hbw.trans hb1) _).mono (Nat.le_of_lt hE2.size))⟩
      · have H4 := Lib.hid h4
        clear h4
        rcases h5 : inB x.delay 0 (a.delay - 1)
        all_goals
          have H5 := Lib.hid h5
          clear h5
          go_quiet (first | (go_at_call 67; (with_reducible exact quiet_w (within_b x.rate _ _ _ _ H4.out))) | (go_at_call 67; (with_reducible exact quiet_w (within_b x.delay _ _ _ _ H5.out))))
          clear e0 e1
          go_wp2_with fail
        · go_ret
          exact ⟨ret_i (slots_1' HV.out HLL.out hlt (by unfold rangeOk; rw [HX.out, HA.out, H5.out]; simp)).symm, hE2.old.trans ((bdrew' (hbw.trans hb1) _).mono (Nat.le_of_lt hE2.size))⟩
        · go_roundw
          case rel => exact ⟨rfl, k + 1, by omega, by go_num, nat_snoc HI.out (by unfold rangeOk; rw [HX.out, HA.out, H4.out, H5.out]; rfl), bdrew' (hbw.trans hb1) _⟩
          case measure => simp [intOf]; omega
    · obtain rfl : k = l.length := by omega
      have HRG := Lib.hid HI.out
      clear HI hEr hsz
      go_wp2_with fail
      obtain ⟨wo, rfl⟩ : ∃ wo : World, wo = wr := ⟨_, rfl⟩
      go_loopw [4, 55] (fun v i wr => v = .int .i64 0 ∧ ∃ k : Nat, k ≤ l.length ∧ i = .int .i64 k ∧ Hid (∀ j, j < k → rowOk m l j = true) ∧ Below w2.heap.size w2 wr) (fun _ i _ => l.length - (intOf i).toNat)
      case atStart => exact ⟨rfl, 0, Nat.zero_le _, rfl, fun j h => by omega, hbw⟩
      case round =>
        clear hbw
        obtain ⟨rfl, k, hk, rfl, HI, hbw⟩ := hrel
        have hEr := hE2.below hbw hE2.size
        have hsz := hbw.size
        by_cases hlt : k < l.length
        · obtain ⟨x, b, off, hx, rfl, hb, c0, c1⟩ := (hG2.below (hbw.mono (B' := w.heap.size) (Nat.le_of_lt hE2.size)) (Nat.le_refl _)).at_ hlt
          have HX := Lib.hid (pairAt_of hx)
          have hb1 : Below w2.heap.size wr (wr.alloc (.cells #[.int .i64 x.rate, .int .i64 x.delay] 96)) := (Below.refl _ _).alloc hsz _
          have hE1 := hEr.below hb1 hE2.size
          obtain ⟨a, b', off', ha, rfl, hb', d0, d1⟩ := hEr.msgs.at_ (show k < m.length by omega)
          have HA := Lib.hid (pairAt_of ha)
          have hap := HPT.out k a ha
          have n0 := newcell wr #[.int .i64 x.rate, .int .i64 x.delay] 96 0
          have n1 := newcell wr #[.int .i64 x.rate, .int .i64 x.delay] 96 1
          simp only [List.getElem?_toArray, List.getElem?_cons_succ, List.getElem?_cons_zero] at n0 n1
          have hs3 : wr.heap.size < (wr.alloc (.cells #[.int .i64 x.rate, .int .i64 x.delay] 96)).heap.size := by simp
          have hxr : rangeOk S m l k = true := HRG.out k hlt
          have hx0 : 0 ≤ x.delay ∧ x.delay ≤ 64 := by
            unfold rangeOk at hxr
            rw [HX.out, HA.out, Bool.and_eq_true, inB_iff, inB_iff] at hxr
            omega
          have hb2 := hbw.trans hb1
          clear hx ha hEr hxr d0 d1
          go_wp2_with fail
          generalize hW : wr.alloc (.cells #[.int .i64 x.rate, .int .i64 x.delay] 96) = w3 at *
          clear hW c0 c1 hb1
          obtain ⟨wp, rfl⟩ : ∃ wp : World, wp = wr := ⟨_, rfl⟩
          go_loopw [4, 64] (fun v i wr => v = .int .i64 0 ∧ ∃ j : Nat, j ≤ k ∧ i = .int .i64 j ∧ Hid (∀ q, q < j → pairOk m l k q = true) ∧ Below w3.heap.size w3 wr) (fun _ i _ => k - (intOf i).toNat)
          case atStart => exact ⟨rfl, 0, Nat.zero_le _, rfl, fun j h => by omega, Below.refl _ _⟩
          case round =>
            obtain ⟨rfl, j, hj, rfl, HJ, hbj⟩ := hrel
            have hszj := hbj.size
            have hsz3 := hb2.size
            by_cases hjk : j < k
            · have hbb := hb2.trans (hbj.mono hsz3)
              obtain ⟨y, b3, off3, hy, he3, hb3, c0, c1⟩ := (hG2.below (hbb.mono (B' := w.heap.size) (Nat.le_of_lt hE2.size)) (Nat.le_refl _)).at_ (k := j) (by omega)
              injection he3 with he3
              injection he3 with he31 he32
              subst he31
              subst he32
              have HY := Lib.hid (pairAt_of hy)
              have hb4 : Below w3.heap.size wr (wr.alloc (.cells #[.int .i64 y.rate, .int .i64 y.delay] 96)) := (Below.refl _ _).alloc hszj _
              have hb5 := hbj.trans hb4
              have hE5 := hE1.below hb5 hE1.size
              obtain ⟨a2, b6, off6, ha2, he6, hb6, d0, d1⟩ := hE5.msgs.at_ (show k < m.length by omega)
              obtain ⟨c, b7, off7, hc, he7, hb7, e0, e1⟩ := hE5.msgs.at_ (show j < m.length by omega)
              injection he6 with he6
              injection he6 with he61 he62
              subst he61
              subst he62
              injection he7 with he7
              injection he7 with he71 he72
              subst he71
              subst he72
              have HA2 : Hid (a2 = a) := by show _ = _; rw [← pairAt_of ha2, HA.out]
              have HCC := Lib.hid (pairAt_of hc)
              have hcp := HPT.out j c hc
              have hyr : rangeOk S m l j = true := HRG.out j (by omega)
              have hy0 : 0 ≤ y.delay ∧ y.delay ≤ 64 := by
                unfold rangeOk at hyr
                rw [HY.out, HCC.out, Bool.and_eq_true, inB_iff, inB_iff] at hyr
                omega
              have p0 := newcell wr #[.int .i64 y.rate, .int .i64 y.delay] 96 0
              have p1 := newcell wr #[.int .i64 y.rate, .int .i64 y.delay] 96 1
              simp only [List.getElem?_toArray, List.getElem?_cons_succ, List.getElem?_cons_zero] at p0 p1
              have n0' := (bcell hb5 wp.heap.size 0 hs3).trans n0
              have n1' := (bcell hb5 wp.heap.size 1 hs3).trans n1
              have q2 := hE5.c2
              have hs4 : wr.heap.size < (wr.alloc (.cells #[.int .i64 y.rate, .int .i64 y.delay] 96)).heap.size := by simp
              have hs5 := hE5.size
              rw [HA2.out] at d0 d1
              clear hy ha2 hc hyr HA2 hb4
              go_wp2_with fail
              generalize hW : wr.alloc (.cells #[.int .i64 y.rate, .int .i64 y.delay] 96) = w4 at *
              clear hW c0 c1 hE1 n0 n1
              have hbx : w.heap.size < w4.heap.size := hs5
              have HK : Hid (∀ w', Below w4.heap.size w4 w' → w'.cell? ⟨w.heap.size, 2, none⟩ = some (.slice (some ⟨b', off', none⟩) m.length cap) ∧ w'.cell? ⟨b', off' + k * 2, none⟩ = some (.int .i64 a.rate) ∧ w'.cell? ⟨b', off' + k * 2 + 1, none⟩ = some (.int .i64 a.delay) ∧ w'.cell? ⟨b', off' + j * 2, none⟩ = some (.int .i64 c.rate) ∧ w'.cell? ⟨b', off' + j * 2 + 1, none⟩ = some (.int .i64 c.delay)) := fun w' hb => ⟨(bcell hb _ _ (by omega)).trans q2, (bcell hb _ _ (by omega)).trans d0, (bcell hb _ _ (by omega)).trans d1, (bcell hb _ _ (by omega)).trans e0, (bcell hb _ _ (by omega)).trans e1⟩
              have hkm : (k : Int) < (m.length : Int) := by omega
              have hjm : (j : Int) < (m.length : Int) := by omega
              have hk0 : (0 : Int) ≤ (k : Int) := by omega
              have hj0 : (0 : Int) ≤ (j : Int) := by omega
              go_upto_region 19 with fail
              go_cut [12, 13] (fun s12 s13 wx => ∃ ga gb : Nat, s12 = .pointer (some ⟨ga, 0, none⟩) ∧ s13 = .pointer (some ⟨gb, 0, none⟩) ∧ wx.cell? ⟨ga, 0, none⟩ = some (.int .i64 a.rate) ∧ wx.cell? ⟨ga, 1, none⟩ = some (.int .i64 a.delay) ∧ wx.cell? ⟨gb, 0, none⟩ = some (.int .i64 c.rate) ∧ wx.cell? ⟨gb, 1, none⟩ = some (.int .i64 c.delay) ∧ Below w4.heap.size w4 wx)
              case first =>
                go_region_held3 (fun w' => w'.cell? ⟨w.heap.size, 2, none⟩ = some (.slice (some ⟨b', off', none⟩) m.length cap) ∧ w'.cell? ⟨b', off' + k * 2, none⟩ = some (.int .i64 a.rate) ∧ w'.cell? ⟨b', off' + k * 2 + 1, none⟩ = some (.int .i64 a.delay) ∧ w'.cell? ⟨b', off' + j * 2, none⟩ = some (.int .i64 c.rate) ∧ w'.cell? ⟨b', off' + j * 2 + 1, none⟩ = some (.int .i64 c.delay)) (exact HK.out _ (by repeat' (first | exact Below.refl _ _ | refine Below.drew ?_ | refine Below.alloc ?_ (by first | (simp; done) | (simp; omega)) _ | refine Below.setCell ?_ (by first | (simp; done) | (simp; omega)) _))) (fail)
                · go_wp2_with fail
                  go_meet
                  exact ⟨w4.heap.size, w4.heap.size + 1, rfl, rfl, (acell _ _ _ _ (by simp)).trans (newcell _ _ _ _), (acell _ _ _ _ (by simp)).trans (newcell _ _ _ _), newcell' (by simp), newcell' (by simp), (((Below.refl _ _).alloc (Nat.le_refl _) _).alloc (by simp) _).drew⟩
                · go_wp2_with fail
                  go_meet
                  exact ⟨w4.heap.size + 1, w4.heap.size, rfl, rfl, newcell' (by simp), newcell' (by simp), (acell _ _ _ _ (by simp)).trans (newcell _ _ _ _), (acell _ _ _ _ (by simp)).trans (newcell _ _ _ _), (((Below.refl _ _).alloc (Nat.le_refl _) _).alloc (by simp) _).drew⟩
              case rest =>
                obtain ⟨ga, gb, rfl, rfl, u0, u1, v0, v1, hbc⟩ := hcut
                have x0 := (bcell hbc wp.heap.size 0 (by omega)).trans n0'
                have x1 := (bcell hbc wp.heap.size 1 (by omega)).trans n1'
                have y0 := (bcell hbc wr.heap.size 0 hs4).trans p0
                have y1 := (bcell hbc wr.heap.size 1 hs4).trans p1
                have hb6 := hb5.trans (hbc.mono hb5.size)
                have HLAST : Hid (pairOk m l k j = !clashB a c x y) := by show _ = _; unfold pairOk; rw [HA.out, HCC.out, HX.out, HY.out]
                have hbout : Below w.heap.size w wc := hE2.old.trans ((hb2.trans (hb6.mono hsz3)).mono (Nat.le_of_lt hE2.size))
                have hac := hap.2
                have hcc := hcp.2
                clear n0' n1' p0 p1 d0 d1 e0 e1 q2 HK hE5 hbc hb5 hbj
                by_cases hxy : x.rate = y.rate
                rotate_left
                · have t1 : (x.rate == y.rate) = false := by simpa using hxy
                  have HP : Hid (pairOk m l k j = true) := by show _ = _; rw [HLAST.out, clashB_false hxy]; rfl
                  clear hxy
                  go_wp2_with fail
                  go_roundw
                  case rel => exact ⟨rfl, j + 1, by omega, by go_num, nat_snoc HJ.out HP.out, hb6⟩
                  case measure => simp [intOf]; omega
                have t1 : (x.rate == y.rate) = true := by simpa using hxy
                by_cases hacr : a.rate = c.rate
                rotate_left
                · have t2 : (a.rate != c.rate) = true := by simpa using hacr
                  have HP : Hid (pairOk m l k j = false) := by show _ = _; rw [HLAST.out, clashB_true hxy hacr]; rfl
                  clear hacr hxy
                  go_wp2_with fail
                  go_ret
                  exact ⟨ret_i (slots_44 HV.out HLL.out HRG.out hlt hjk HP.out).symm, hbout⟩
                have t2 : (a.rate != c.rate) = false := by simpa using hacr
                have HCM := Lib.hid (clashB_mod hxy hacr)
                clear hxy hacr
                rcases hr : (x.delay % minI a.delay c.delay == y.delay % minI a.delay c.delay)
                · have HP : Hid (pairOk m l k j = true) := by show _ = _; rw [HLAST.out, HCM.out, hr]; rfl
                  have HC := Lib.hid (clash_b a c x y wc (by omega) (by omega) hx0 hy0 hr)
                  clear hr
                  go_wp2_with (go_at_call 73; refine HC.out.mono ?_; rintro e w6 ⟨rfl, hb7⟩)
                  go_roundw
                  case rel => exact ⟨rfl, j + 1, by omega, by go_num, nat_snoc HJ.out HP.out, hb6.trans (hb7.mono hb6.size)⟩
                  case measure => simp [intOf]; omega
                · have HP : Hid (pairOk m l k j = false) := by show _ = _; rw [HLAST.out, HCM.out, hr]; rfl
                  have HC := Lib.hid (clash_b a c x y wc (by omega) (by omega) hx0 hy0 hr)
                  clear hr
                  go_wp2_with (go_at_call 73; refine HC.out.mono ?_; rintro e w6 ⟨rfl, hb7⟩)
                  go_ret
                  exact ⟨ret_i (slots_44 HV.out HLL.out HRG.out hlt hjk HP.out).symm, hbout.trans (hb7.mono hbout.size)⟩
            · obtain rfl : j = k := by omega
              have HP : Hid (rowOk m l j = true) := range_yes HJ.out
              have hbb := hb2.trans (hbj.mono hsz3)
              go_wp2_with fail
              go_roundw
              case rel => exact ⟨rfl, j + 1, by omega, by go_num, nat_snoc HI.out HP.out, hbb⟩
              case measure => simp [intOf]; omega
        · obtain rfl : k = l.length := by omega
          have HP : Hid (slotsS S C m l = 0) := slots_0 HV.out HLL.out HRG.out HI.out
          clear hEr
          go_wp2_with fail
          go_ret
          exact ⟨ret_i HP.out.symm, hE2.old.trans (hbw.mono (Nat.le_of_lt hE2.size))⟩
end Go.Proofs.Ytlbbhlkbhegegaa
