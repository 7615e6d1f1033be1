/- Walks: the reference's Guide; sameTree; the law DiagnoseGuides. -/
import Derived.Test.YtonpemikodajdaaDoorGp
import Derived.Test.YtonpemikodajdaaDoorLf
import Derived.Deep.RegionHeld3
namespace Go.Proofs.YtonpemikodajdaaDoor
open Go.RowKit

theorem Gn.below {w w' : World} {m1 m2 B : Nat} {r : Option Nat} (h : Gn w w' m1 m2 r) (hB : B ≤ w.heap.size) (h1 : B ≤ m1) (h2 : B ≤ m2) (h3 : ∀ k, r = some k → B ≤ k) : Below B w w' := ⟨h.os, h.tape, h.output, h.size, fun k hk => h.block k (by omega) (by omega) (by omega) (fun e => by have := h3 k e.symm; omega)⟩
set_option maxRecDepth 100000 in
set_option maxHeartbeats 8000000 in
theorem rguide_any (A1 A2 : Option Addr) (c1 c2 : Nat) (c : MCase) (w : World) (h : CaseA w w.heap.size A1 A2 c) :
    Calls Tryd.prog 21 #[.agg #[.slice A1 c.weights.length c1, .slice A2 c.tests.length c2]] w (GuidePost w c) := by
  have hb1 : Below w.heap.size w (w.alloc (.cells #[.slice A1 c.weights.length c1, .slice A2 c.tests.length c2] 36)) := (Below.refl _ _).alloc (Nat.le_refl _) _
  have hsz : (w.alloc (.cells #[.slice A1 c.weights.length c1, .slice A2 c.tests.length c2] 36)).heap.size = w.heap.size + 1 := by simp
  have n0 := newcell w #[.slice A1 c.weights.length c1, .slice A2 c.tests.length c2] 36 0
  have n1 := newcell w #[.slice A1 c.weights.length c1, .slice A2 c.tests.length c2] 36 1
  simp only [List.getElem?_toArray, List.getElem?_cons_succ, List.getElem?_cons_zero] at n0 n1
  have HKK : Hid (∀ wx, Below (w.heap.size + 1) (w.alloc (.cells #[.slice A1 c.weights.length c1, .slice A2 c.tests.length c2] 36)) wx → wx.cell? ⟨w.heap.size, 0, none⟩ = some (.slice A1 c.weights.length c1) ∧ wx.cell? ⟨w.heap.size, 1, none⟩ = some (.slice A2 c.tests.length c2)) := fun wx hb => ⟨(bcell hb _ _ (by omega)).trans n0, (bcell hb _ _ (by omega)).trans n1⟩
  rcases hv : caseB c
  · have HCK := Lib.hid (rccheck_any A1 A2 c1 c2 c (w.alloc (.cells #[.slice A1 c.weights.length c1, .slice A2 c.tests.length c2] 36)) ((h.keep hb1).more hb1.size) (checkC_no hv))
    have HV := Lib.hid hv
    clear hv
    go_enter Tryd.func21, Tryd.ntmps21
    go_wp2_with (go_at_call 28; (with_reducible refine HCK.out.mono ?_); rintro e w2 ⟨rfl, hb2⟩)
    go_ret3
    exact ⟨hb1.trans (hb2.mono hb1.size), .inl ⟨HV.out, rfl⟩⟩
  · have HCK := Lib.hid (rccheck_any A1 A2 c1 c2 c (w.alloc (.cells #[.slice A1 c.weights.length c1, .slice A2 c.tests.length c2] 36)) ((h.keep hb1).more hb1.size) (checkC_yes hv))
    have hok := caseOk hv
    have hn12 := hok.n2
    have HV := Lib.hid hv
    have HCA := Lib.hid h
    have HFL := Lib.hid (fullS_lt c)
    have hcap := growG_cap hok (bestCh_ok hok) 0
    rw [← growS_best] at hcap
    have HCAP := Lib.hid hcap
    have H61 : Hid (∀ wx, Calls Tryd.prog 61 #[.agg #[.slice A1 c.weights.length c1, .slice A2 c.tests.length c2]] wx fun e w' => ∃ A cap, e = .returned (.slice A (bitsI (fullS c)).length cap) ∧ (bitsI (fullS c)).length ≤ cap ∧ OutI w' wx.heap.size (.slice A (bitsI (fullS c)).length cap) (bitsI (fullS c)) ∧ Below wx.heap.size wx w') := fun wx => by
      refine (all_any A1 A2 c1 c2 c wx hn12).mono ?_
      rintro e w' ⟨⟨v, he, hO⟩, hb⟩
      obtain ⟨A, cap, hva, hl, _⟩ := hO.reads
      subst hva
      exact ⟨A, cap, he, hl, hO, hb⟩
    clear hv h hok hcap n0 n1
    have hmm := @run_makeMap Tryd.prog
    obtain ⟨p0, p1⟩ := HKK.out _ (Below.refl _ _)
    go_enter Tryd.func21, Tryd.ntmps21
    go_upto_region 5 with (go_at_call 28; (with_reducible refine HCK.out.mono ?_); rintro e w2 ⟨rfl, hb2⟩; have HB2 : Hid (Below (w.heap.size + 1) (w.alloc (.cells #[.slice A1 c.weights.length c1, .slice A2 c.tests.length c2] 36)) w2) := hb2.mono (by omega); obtain ⟨r0, r1⟩ := HKK.out w2 HB2.out; clear hb2)
    have hs2 := HB2.out.size
    rw [hsz] at hs2
    have hb4 : Below w2.heap.size w2 (((w2.alloc (.map #[] 0)).alloc (.map #[] 0)).alloc (.cells #[.slice A1 c.weights.length c1, .slice A2 c.tests.length c2, .map (some w2.heap.size), .map (some (w2.heap.size + 1))] 105)) := (((Below.refl _ _).alloc (Nat.le_refl _) _).alloc (by simp) _).alloc (by simp; omega) _
    have hs4 : (((w2.alloc (.map #[] 0)).alloc (.map #[] 0)).alloc (.cells #[.slice A1 c.weights.length c1, .slice A2 c.tests.length c2, .map (some w2.heap.size), .map (some (w2.heap.size + 1))] 105)).heap.size = w2.heap.size + 3 := by simp
    have HWE : Hid (WE (((w2.alloc (.map #[] 0)).alloc (.map #[] 0)).alloc (.cells #[.slice A1 c.weights.length c1, .slice A2 c.tests.length c2, .map (some w2.heap.size), .map (some (w2.heap.size + 1))] 105)) w.heap.size (w2.heap.size + 1 + 1) w2.heap.size (w2.heap.size + 1) A1 c1 A2 c2 c (fun _ => False)) := by
      refine ⟨by rw [hs4]; omega, newcell' (by simp), newcell' (by simp), newcell' (by simp), newcell' (by simp), HCA.out.keep ((hb1.trans (HB2.out.mono (by omega))).trans (hb4.mono (by omega))), (KnI.made w2 _).below (((Below.refl _ _).alloc (Nat.le_refl _) _).alloc (by simp) _) (by simp), ?_, by omega, by omega, by omega, by omega, by omega, by omega⟩
      have h9 := KnI.made (w2.alloc (.map #[] 0)) (fun k => (bestS c k).1)
      rw [show (w2.alloc (.map #[] 0)).heap.size = w2.heap.size + 1 by simp] at h9
      exact h9.below ((Below.refl _ _).alloc (Nat.le_refl _) _) (by simp)
    have HB4 : Hid (Below (w.heap.size + 1) (w.alloc (.cells #[.slice A1 c.weights.length c1, .slice A2 c.tests.length c2] 36)) (((w2.alloc (.map #[] 0)).alloc (.map #[] 0)).alloc (.cells #[.slice A1 c.weights.length c1, .slice A2 c.tests.length c2, .map (some w2.heap.size), .map (some (w2.heap.size + 1))] 105))) := HB2.out.trans (hb4.mono (by omega))
    obtain ⟨s0, s1⟩ := HKK.out _ HB4.out
    have HK4 : Hid (∀ wx, Below (w.heap.size + 1) (((w2.alloc (.map #[] 0)).alloc (.map #[] 0)).alloc (.cells #[.slice A1 c.weights.length c1, .slice A2 c.tests.length c2, .map (some w2.heap.size), .map (some (w2.heap.size + 1))] 105)) wx → wx.cell? ⟨w.heap.size, 0, none⟩ = some (.slice A1 c.weights.length c1) ∧ wx.cell? ⟨w.heap.size, 1, none⟩ = some (.slice A2 c.tests.length c2)) := fun wx hb => HKK.out wx (HB4.out.trans hb)
    clear hb4 r0 r1 p0 p1 hmm
    generalize (((w2.alloc (.map #[] 0)).alloc (.map #[] 0)).alloc (.cells #[.slice A1 c.weights.length c1, .slice A2 c.tests.length c2, .map (some w2.heap.size), .map (some (w2.heap.size + 1))] 105)) = w4 at *
    have H60 : Hid (∀ (wx : World) (As : Option Addr) (cap : Nat), Below w4.heap.size w4 wx → OutI wx w4.heap.size (.slice As (bitsI (fullS c)).length cap) (bitsI (fullS c)) → (bitsI (fullS c)).length ≤ cap → Calls Tryd.prog 60 #[.pointer (some ⟨w2.heap.size + 1 + 1, 0, none⟩), .slice As (bitsI (fullS c)).length cap, .slice none 0 0] wx (RPost wx w.heap.size w4.heap.size (w2.heap.size + 1 + 1) w2.heap.size (w2.heap.size + 1) A1 c1 A2 c2 c (fun _ => False) (fun _ b => b ≠ w2.heap.size ∧ b ≠ w2.heap.size + 1) (fun _ => ((none, 0), (none, 0))) (.slice none 0 0) [] (fullS c))) := fun wx As cap hb hO hl => by
      have hsx := hb.size
      exact rgrow_any w.heap.size w4.heap.size _ _ _ A1 c1 A2 c2 c HV.out (fullS c) HFL.out wx As cap _ _ _ _ [] ⟨HWE.out.below hb, hb.size, by omega, by omega, by omega, OutV.nil _ _ _ _, fun _ _ b hb => ⟨by omega, by omega⟩, fun _ _ hu => hu, hO.intsU rfl fun g _ hg => ⟨⟨by omega, by omega⟩, fun e => by cases e⟩⟩ hl (by have := HCAP.out.2; show 0 + (growS c (fullS c) 0).length ≤ _; omega)
    have H62 : Hid (∀ (wx : World) (As : Option Addr) (cap b0 : Nat) (q : Nat → Prop), w4.heap.size ≤ b0 → WE wx w.heap.size (w2.heap.size + 1 + 1) w2.heap.size (w2.heap.size + 1) A1 c1 A2 c2 c q → OutI wx b0 (.slice As (bitsI (fullS c)).length cap) (bitsI (fullS c)) → Calls Tryd.prog 62 #[.pointer (some ⟨w2.heap.size + 1 + 1, 0, none⟩), .slice As (bitsI (fullS c)).length cap] wx (LeastPost wx w.heap.size (w2.heap.size + 1 + 1) w2.heap.size (w2.heap.size + 1) A1 c1 A2 c2 c q (fullS c))) := fun wx As cap b0 q hb0 hw hO => least_any w.heap.size _ _ _ A1 c1 A2 c2 c HV.out (fullS c) HFL.out wx As cap q hw (hO.intsU rfl fun g _ hg => ⟨by omega, by omega⟩)
    go_region_held3 (fun wx => wx.cell? ⟨w.heap.size, 0, none⟩ = some (.slice A1 c.weights.length c1) ∧ wx.cell? ⟨w.heap.size, 1, none⟩ = some (.slice A2 c.tests.length c2)) (exact HK4.out _ (by first | exact HB8 | exact HB7 | exact HB6 | exact HB5 | exact (Below.refl _ _).drew | fail)) ((first
      | (go_at_call 61; (with_reducible refine (H61.out w4.drew).mono ?_); rintro e w5 ⟨Aa, ca, rfl, hla, hO5, hb5⟩; have HB5 : Below (w.heap.size + 1) w4 w5 := (Below.refl _ _).drew.trans (hb5.mono (by show w.heap.size + 1 ≤ w4.heap.size; omega)); have hb5w : Below w4.heap.size w4 w5 := (Below.refl _ _).drew.trans hb5; have HO5 : Hid (OutI w5 w4.heap.size (.slice Aa (bitsI (fullS c)).length ca) (bitsI (fullS c))) := hO5; have HB5W := Lib.hid hb5w; have HLA := Lib.hid hla; clear hO5 hb5 hb5w hla)
      | (go_at_call 60; (with_reducible refine (H60.out w5 Aa ca HB5W.out HO5.out HLA.out).mono ?_); rintro e w6 ⟨v6, pv6, q6, rfl, hO6, _, hW6, _, hG6, hat6⟩; have HB6 : Below (w.heap.size + 1) w4 w6 := HB5.trans (hG6.below (by have := HB5.size; omega) (by omega) (by omega) (fun k hk => by cases hk)); have HO6 := Lib.hid hO6; have HW6 := Lib.hid hW6; have hs56 := hG6.size; have HB56 : Hid (w4.heap.size ≤ w6.heap.size) := Nat.le_trans HB5W.out.size hs56; clear hO6 hW6 hG6 hat6 hs56)
      | (go_at_call 61; (with_reducible refine (H61.out w6).mono ?_); rintro e w7 ⟨Ab, cb, rfl, _, hO7, hb7⟩; have HB7 : Below (w.heap.size + 1) w4 w7 := HB6.trans (hb7.mono (by have := HB56.out; omega)); have HW7 := Lib.hid (HW6.out.below hb7); have HV7 := Lib.hid (HO6.out.keep hb7); have HO7 := Lib.hid hO7; clear hO7 hb7)
      | (go_at_call 62; (with_reducible refine (H62.out w7 Ab cb w6.heap.size q6 HB56.out HW7.out HO7.out).mono ?_); rintro e w8 ⟨rfl, q8, _, _, hW8, hG8⟩; have HB8 : Below (w.heap.size + 1) w4 w8 := HB7.trans (hG8.below (by have := HB7.size; omega) (by omega) (by omega)); have HV8 := Lib.hid (HV7.out.gm hG8 (fun _ _ hu => hu) (by omega) (by omega)); clear hW8 hG8)
      | (fail)))
    go_wp2_with fail
    go_ret3
    exact ⟨hb1.trans ((HB4.out.trans HB8).mono (by omega)), .inr ⟨HV.out, v6, rfl, HV8.out.outK.base (by omega)⟩⟩
set_option maxRecDepth 100000 in
set_option maxHeartbeats 8000000 in
theorem sameTree_any (A A' : Option Addr) (cap cap' : Nat) (F : List MFork) (w : World) (h : ForksA w w.heap.size A F) (h' : ForksA w w.heap.size A' F) :
    Calls Tryd.prog 22 #[.slice A F.length cap, .slice A' F.length cap'] w fun e w' => e = .returned (.bool true) ∧ Below w.heap.size w w' := by
  have hfl := h.1
  unfold maxLen at hfl
  have HF := Lib.hid h
  have HF' := Lib.hid h'
  clear h h'
  go_enter Tryd.func22, Tryd.ntmps22
  go_wp2_with fail
  go_loopw [5] (fun vi wr => ∃ k : Nat, k ≤ F.length ∧ vi = .int .i64 k ∧ Hid (Below w.heap.size w wr)) (fun vi _ => F.length - (intOf vi).toNat)
  case atStart => exact ⟨0, Nat.zero_le _, rfl, Below.refl _ _⟩
  case round =>
    obtain ⟨k, hk, rfl, HB⟩ := hrel
    rename World => wr
    have hsr := HB.out.size
    by_cases hlt : k < F.length
    · obtain ⟨fb, fo, An, cn, As, cs, hA, hfb, t0, t1, t2, _, hIn, _, hIs⟩ := (HF.out.keep HB.out).at_ hlt
      obtain ⟨gb, go, Bn, bn, Bs, bs, hA', hgb, u0, u1, u2, _, hJn, _, hJs⟩ := (HF'.out.keep HB.out).at_ hlt
      subst hA
      subst hA'
      obtain ⟨tv, htv⟩ : ∃ x, (fk F k).test = x := ⟨_, rfl⟩
      obtain ⟨nl, hnl⟩ : ∃ x, (fk F k).next = x := ⟨_, rfl⟩
      obtain ⟨sl, hsl⟩ : ∃ x, (fk F k).set = x := ⟨_, rfl⟩
      rw [htv] at t0 u0
      rw [hnl] at t1 u1 hIn hJn
      rw [hsl] at t2 u2 hIs hJs
      have q0 := BW.cell (B := wr.heap.size) (W := wr) (show fb < wr.heap.size by omega) t0
      have q1 := BW.cell (B := wr.heap.size) (W := wr) (show fb < wr.heap.size by omega) t1
      have q2 := BW.cell (B := wr.heap.size) (W := wr) (show fb < wr.heap.size by omega) t2
      have q3 := BW.cell (B := wr.heap.size) (W := wr) (show gb < wr.heap.size by omega) u0
      have q4 := BW.cell (B := wr.heap.size) (W := wr) (show gb < wr.heap.size by omega) u1
      have q5 := BW.cell (B := wr.heap.size) (W := wr) (show gb < wr.heap.size by omega) u2
      have HNX : Hid (∀ s : BW wr.heap.size wr, Calls Tryd.prog 24 #[.slice An nl.length cn, .slice Bn nl.length bn] s.1 fun e w' => e = .returned (.bool true) ∧ Below s.1.heap.size s.1 w') := fun s => same_ints An Bn cn bn nl nl s.1 ((hIn.keep (s.2.mono hsr)).more (by have := s.2.size; omega)) ((hJn.keep (s.2.mono hsr)).more (by have := s.2.size; omega)) (decide_eq_true rfl)
      have HST : Hid (∀ s : BW wr.heap.size wr, Calls Tryd.prog 24 #[.slice As sl.length cs, .slice Bs sl.length bs] s.1 fun e w' => e = .returned (.bool true) ∧ Below s.1.heap.size s.1 w') := fun s => same_ints As Bs cs bs sl sl s.1 ((hIs.keep (s.2.mono hsr)).more (by have := s.2.size; omega)) ((hJs.keep (s.2.mono hsr)).more (by have := s.2.size; omega)) (decide_eq_true rfl)
      have e0 : (tv != tv) = false := by simp
      clear htv hnl hsl t0 t1 t2 u0 u1 u2 hIn hIs hJn hJs
      go_wp2_with fail
      refine wp_region_below wr.heap.size wr (Below.refl _ _) (by kernel_rfl) (by kernel_rfl) ?_
      repeat (go_big_quiet_step (first | (go_at_call 24; (with_reducible exact quiet_below (Nat.le_refl _) (HNX.out _))) | (go_at_call 24; (with_reducible exact quiet_below (Nat.le_refl _) (HST.out _))) | (go_at_call 24; exact quiet_below (Nat.le_refl _) (HNX.out _)) | (go_at_call 24; exact quiet_below (Nat.le_refl _) (HST.out _))))
      refine wpQuiet_nil ?_
      intro s''
      have HB9 := Lib.hid s''.2
      generalize s''.1 = w9 at *
      clear q0 q1 q2 q3 q4 q5 HNX HST
      go_wp2_with fail
      go_roundw
      case rel => exact ⟨k + 1, by omega, by go_num, HB.out.trans (HB9.out.mono hsr)⟩
      case measure => simp [intOf]; omega
    · obtain rfl : k = F.length := by omega
      go_wp2_with fail
      go_ret
      exact ⟨rfl, HB.out⟩
set_option maxRecDepth 100000 in
set_option maxHeartbeats 8000000 in
theorem lawGuides_any (A1 A2 : Option Addr) (c1 c2 : Nat) (c : MCase) (w : World) (h : CaseA w w.heap.size A1 A2 c) (hT : TabW w) :
    Calls Tryd.prog 4 #[.agg #[.slice A1 c.weights.length c1, .slice A2 c.tests.length c2]] w fun e w' => e = .returned (.bool true) ∧ Below w.heap.size w w' := by
  have hb1 : Below w.heap.size w (w.alloc (.cells #[.slice A1 c.weights.length c1, .slice A2 c.tests.length c2] 36)) := (Below.refl _ _).alloc (Nat.le_refl _) _
  have hsz : (w.alloc (.cells #[.slice A1 c.weights.length c1, .slice A2 c.tests.length c2] 36)).heap.size = w.heap.size + 1 := by simp
  have n0 := newcell w #[.slice A1 c.weights.length c1, .slice A2 c.tests.length c2] 36 0
  have n1 := newcell w #[.slice A1 c.weights.length c1, .slice A2 c.tests.length c2] 36 1
  simp only [List.getElem?_toArray, List.getElem?_cons_succ, List.getElem?_cons_zero] at n0 n1
  have HC : Hid (∀ wx, Below (w.heap.size + 1) (w.alloc (.cells #[.slice A1 c.weights.length c1, .slice A2 c.tests.length c2] 36)) wx → CaseA wx wx.heap.size A1 A2 c ∧ TabW wx) := fun wx hb => by
    have hbw := hb1.trans (hb.mono (by omega))
    exact ⟨(h.keep hbw).more hbw.size, hT.keep hbw⟩
  have HN : Hid (∀ wx, Below (w.heap.size + 1) (w.alloc (.cells #[.slice A1 c.weights.length c1, .slice A2 c.tests.length c2] 36)) wx → wx.cell? ⟨w.heap.size, 0, none⟩ = some (.slice A1 c.weights.length c1) ∧ wx.cell? ⟨w.heap.size, 1, none⟩ = some (.slice A2 c.tests.length c2)) := fun wx hb => ⟨(bcell hb _ _ (by omega)).trans n0, (bcell hb _ _ (by omega)).trans n1⟩
  have HW : Hid (∀ wx, Below (w.heap.size + 1) (w.alloc (.cells #[.slice A1 c.weights.length c1, .slice A2 c.tests.length c2] 36)) wx → Calls Tryd.prog 18 #[] wx fun e w' => e = .returned (.bool true) ∧ Below wx.heap.size wx w') := fun wx hb => works_any wx (HC.out wx hb).2
  obtain ⟨b, hbe⟩ : ∃ b, bigB c = b := ⟨_, rfl⟩
  have H19 : Hid (Calls Tryd.prog 19 #[.agg #[.slice A1 c.weights.length c1, .slice A2 c.tests.length c2]] (w.alloc (.cells #[.slice A1 c.weights.length c1, .slice A2 c.tests.length c2] 36)) fun e w' => e = .returned (.bool b) ∧ Below (w.alloc (.cells #[.slice A1 c.weights.length c1, .slice A2 c.tests.length c2] 36)).heap.size (w.alloc (.cells #[.slice A1 c.weights.length c1, .slice A2 c.tests.length c2] 36)) w') := big_any _ _ _ _ _ _ hbe
  obtain ⟨F, E, K, hG⟩ : ∃ (F : List MFork) (E K : Int), ∀ (w0 w' : World) (e : Ending), GuidePost w0 c e w' → ∃ A cap, e = .returned (.tuple #[.slice A F.length cap, .int .i64 K, .int .i64 E]) ∧ ForksA w' w'.heap.size A F ∧ Below w0.heap.size w0 w' := by
    rcases hv : caseB c
    · refine ⟨[], 101, 0, fun w0 w' e ⟨hb, h9⟩ => ?_⟩
      rcases h9 with ⟨_, he⟩ | ⟨h9, _⟩
      · exact ⟨none, 0, he, ⟨Nat.zero_le _, fun _ => ((none, 0), (none, 0)), fun hn => by simp at hn, fun i hi => by simp at hi⟩, hb⟩
      · rw [hv] at h9; cases h9
    · have hok := caseOk hv
      obtain ⟨S, hTr, hS⟩ := tree_ok hok (guide_right hok)
      have h5 := hTr.n2
      refine ⟨growS c (fullS c) 0, 0, (bestS c (fullS c)).2, fun w0 w' e ⟨hb, h9⟩ => ?_⟩
      rcases h9 with ⟨h9, _⟩ | ⟨_, v, he, hO⟩
      · rw [hv] at h9; cases h9
      · obtain ⟨A, cap, hva, _⟩ := hO.lenV
        subst hva
        exact ⟨A, cap, he, hO.forks (by unfold maxLen; omega) fun i hi => forks_len hTr hi, hb⟩
  have H20 : Hid (∀ wx, Below (w.heap.size + 1) (w.alloc (.cells #[.slice A1 c.weights.length c1, .slice A2 c.tests.length c2] 36)) wx → Calls Tryd.prog 20 #[.agg #[.slice A1 c.weights.length c1, .slice A2 c.tests.length c2]] wx fun e w' => ∃ A cap, e = .returned (.tuple #[.slice A F.length cap, .int .i64 K, .int .i64 E]) ∧ ForksA w' w'.heap.size A F ∧ Below wx.heap.size wx w') := fun wx hb => (guide_any A1 A2 c1 c2 c wx (HC.out wx hb).1 (HC.out wx hb).2).mono fun e w' hp => hG wx w' e hp
  have H21 : Hid (∀ wx, Below (w.heap.size + 1) (w.alloc (.cells #[.slice A1 c.weights.length c1, .slice A2 c.tests.length c2] 36)) wx → Calls Tryd.prog 21 #[.agg #[.slice A1 c.weights.length c1, .slice A2 c.tests.length c2]] wx fun e w' => ∃ A cap, e = .returned (.tuple #[.slice A F.length cap, .int .i64 K, .int .i64 E]) ∧ ForksA w' w'.heap.size A F ∧ Below wx.heap.size wx w') := fun wx hb => (rguide_any A1 A2 c1 c2 c wx (HC.out wx hb).1).mono fun e w' hp => hG wx w' e hp
  obtain ⟨p0, p1⟩ := HN.out _ (Below.refl _ _)
  clear h hT hbe hG n0 n1
  rcases b with _ | _
  rotate_left
  · go_enter Tryd.func4, Tryd.ntmps4
    go_wp2_with (first
      | (go_at_call 19; (with_reducible refine H19.out.mono ?_); rintro e w2 ⟨rfl, hb2⟩; have HB2 : Hid (Below (w.heap.size + 1) (w.alloc (.cells #[.slice A1 c.weights.length c1, .slice A2 c.tests.length c2] 36)) w2) := hb2.mono (by omega); clear hb2)
      | (go_at_call 18; (with_reducible refine (HW.out _ HB2.out).mono ?_); rintro e w8 ⟨rfl, hb8⟩))
    go_ret
    exact ⟨rfl, (hb1.trans (HB2.out.mono (by omega))).trans (hb8.mono (by have := HB2.out.size; omega))⟩
  · go_enter Tryd.func4, Tryd.ntmps4
    go_wp2_with (first
      | (go_at_call 19; (with_reducible refine H19.out.mono ?_); rintro e w2 ⟨rfl, hb2⟩; have HB2 : Hid (Below (w.heap.size + 1) (w.alloc (.cells #[.slice A1 c.weights.length c1, .slice A2 c.tests.length c2] 36)) w2) := hb2.mono (by omega); obtain ⟨r0, r1⟩ := HN.out w2 HB2.out; clear hb2)
      | (go_at_call 20; (with_reducible refine (H20.out _ HB2.out).mono ?_); rintro e w3 ⟨Aa, ca, rfl, hF3, hb3⟩; have HB3 : Hid (Below (w.heap.size + 1) (w.alloc (.cells #[.slice A1 c.weights.length c1, .slice A2 c.tests.length c2] 36)) w3) := HB2.out.trans (hb3.mono (by have := HB2.out.size; omega)); have HF3 := Lib.hid hF3; obtain ⟨s0, s1⟩ := HN.out w3 HB3.out; clear hb3 hF3)
      | (go_at_call 21; (with_reducible refine (H21.out _ HB3.out).mono ?_); rintro e w4 ⟨Ab, cb, rfl, hF4, hb4⟩; have HB4 : Hid (Below (w.heap.size + 1) (w.alloc (.cells #[.slice A1 c.weights.length c1, .slice A2 c.tests.length c2] 36)) w4) := HB3.out.trans (hb4.mono (by have := HB3.out.size; omega)); have HF34 := Lib.hid ((HF3.out.keep hb4).more hb4.size); have HF4 := Lib.hid hF4; clear hb4 hF4)
      | (go_at_call 22; (with_reducible refine (sameTree_any Aa Ab ca cb F w4 HF34.out HF4.out).mono ?_); rintro e w5 ⟨rfl, hb5⟩; have HB5 : Hid (Below (w.heap.size + 1) (w.alloc (.cells #[.slice A1 c.weights.length c1, .slice A2 c.tests.length c2] 36)) w5) := HB4.out.trans (hb5.mono (by have := HB4.out.size; omega)); clear hb5)
      | (go_at_call 18; (with_reducible refine (HW.out _ HB5.out).mono ?_); rintro e w8 ⟨rfl, hb8⟩))
    go_ret
    exact ⟨rfl, (hb1.trans (HB5.out.mono (by omega))).trans (hb8.mono (by have := HB5.out.size; omega))⟩
end Go.Proofs.YtonpemikodajdaaDoor
