/- Walk: the law DiagnoseTrees. -/
import Derived.Test.YtonpemikodajdaaDoorCo
import Derived.Test.YtonpemikodajdaaDoorWk
namespace Go.Proofs.YtonpemikodajdaaDoor
open Go.RowKit

set_option maxRecDepth 100000 in
set_option maxHeartbeats 8000000 in
theorem lawTrees_any (A1 A2 : Option Addr) (c1 c2 : Nat) (c : MCase) (A : Option Addr) (cap : Nat) (F : List MFork) (x : Int) (w : World) (h : CaseA w w.heap.size A1 A2 c) (hF : ForksA w w.heap.size A F) (hT : TabW w) :
    Calls Tryd.prog 11 #[.agg #[.slice A1 c.weights.length c1, .slice A2 c.tests.length c2], .slice A F.length cap, .int .i64 x] w fun e w' => e = .returned (.bool true) ∧ Below w.heap.size w w' := by
  have hb1 : Below w.heap.size w (w.alloc (.cells #[.slice A1 c.weights.length c1, .slice A2 c.tests.length c2] 36)) := (Below.refl _ _).alloc (Nat.le_refl _) _
  have hsz : (w.alloc (.cells #[.slice A1 c.weights.length c1, .slice A2 c.tests.length c2] 36)).heap.size = w.heap.size + 1 := by simp
  have n0 := newcell w #[.slice A1 c.weights.length c1, .slice A2 c.tests.length c2] 36 0
  have n1 := newcell w #[.slice A1 c.weights.length c1, .slice A2 c.tests.length c2] 36 1
  simp only [List.getElem?_toArray, List.getElem?_cons_succ, List.getElem?_cons_zero] at n0 n1
  have HC : Hid (∀ wx, Below (w.heap.size + 1) (w.alloc (.cells #[.slice A1 c.weights.length c1, .slice A2 c.tests.length c2] 36)) wx → CaseA wx wx.heap.size A1 A2 c ∧ TabW wx ∧ ForksA wx wx.heap.size A F) := fun wx hb => by
    have hbw := hb1.trans (hb.mono (by omega))
    exact ⟨(h.keep hbw).more hbw.size, hT.keep hbw, (hF.keep hbw).more hbw.size⟩
  have HN : Hid (∀ wx, Below (w.heap.size + 1) (w.alloc (.cells #[.slice A1 c.weights.length c1, .slice A2 c.tests.length c2] 36)) wx → wx.cell? ⟨w.heap.size, 0, none⟩ = some (.slice A1 c.weights.length c1) ∧ wx.cell? ⟨w.heap.size, 1, none⟩ = some (.slice A2 c.tests.length c2)) := fun wx hb => ⟨(bcell hb _ _ (by omega)).trans n0, (bcell hb _ _ (by omega)).trans n1⟩
  obtain ⟨E, hE⟩ : ∃ E, guideE c F = E := ⟨_, rfl⟩
  obtain ⟨K, hK⟩ : ∃ K, costE c F = K := ⟨_, rfl⟩
  have H40 : Hid (∀ s : BW (w.heap.size + 1) (w.alloc (.cells #[.slice A1 c.weights.length c1, .slice A2 c.tests.length c2] 36)), Calls Tryd.prog 40 #[.agg #[.slice A1 c.weights.length c1, .slice A2 c.tests.length c2], .slice A F.length cap] s.1 fun e w' => e = .returned (.int .i64 E) ∧ Below s.1.heap.size s.1 w') := fun s => cguide_any A1 A2 c1 c2 c A cap F s.1 (HC.out s.1 s.2).1 (HC.out s.1 s.2).2.1 (HC.out s.1 s.2).2.2 hE
  have H41 : Hid (∀ s : BW (w.heap.size + 1) (w.alloc (.cells #[.slice A1 c.weights.length c1, .slice A2 c.tests.length c2] 36)), Calls Tryd.prog 41 #[.agg #[.slice A1 c.weights.length c1, .slice A2 c.tests.length c2], .slice A F.length cap] s.1 fun e w' => e = .returned (.int .i64 E) ∧ Below s.1.heap.size s.1 w') := fun s => rcguide_any A1 A2 c1 c2 c A cap F s.1 (HC.out s.1 s.2).1 (HC.out s.1 s.2).2.2 hE
  have H38 : Hid (∀ wx, Below (w.heap.size + 1) (w.alloc (.cells #[.slice A1 c.weights.length c1, .slice A2 c.tests.length c2] 36)) wx → Calls Tryd.prog 38 #[.agg #[.slice A1 c.weights.length c1, .slice A2 c.tests.length c2], .slice A F.length cap] wx fun e w' => e = .returned (.tuple #[.int .i64 K, .int .i64 E]) ∧ Below wx.heap.size wx w') := fun wx hb => pCost_any A1 A2 c1 c2 c A cap F wx (HC.out wx hb).1 (HC.out wx hb).2.1 (HC.out wx hb).2.2 hE hK
  have H42 : Hid (∀ wx, Below (w.heap.size + 1) (w.alloc (.cells #[.slice A1 c.weights.length c1, .slice A2 c.tests.length c2] 36)) wx → Calls Tryd.prog 42 #[.agg #[.slice A1 c.weights.length c1, .slice A2 c.tests.length c2], .slice A F.length cap] wx fun e w' => e = .returned (.tuple #[.int .i64 K, .int .i64 E]) ∧ Below wx.heap.size wx w') := fun wx hb => rCost_any A1 A2 c1 c2 c A cap F wx (HC.out wx hb).1 (HC.out wx hb).2.2 hE hK
  obtain ⟨G, hG⟩ : ∃ G, walkE c F x = G := ⟨_, rfl⟩
  obtain ⟨L, hL⟩ : ∃ L, walkL c F x = L := ⟨_, rfl⟩
  obtain ⟨M, hM⟩ : ∃ M, walkM c F x = M := ⟨_, rfl⟩
  have H43 : Hid (∀ wx, Below (w.heap.size + 1) (w.alloc (.cells #[.slice A1 c.weights.length c1, .slice A2 c.tests.length c2] 36)) wx → Calls Tryd.prog 43 #[.agg #[.slice A1 c.weights.length c1, .slice A2 c.tests.length c2], .slice A F.length cap, .int .i64 x] wx fun e w' => ∃ Av cv As cs, e = .returned (.tuple #[.slice Av L.length cv, .slice As M.length cs, .int .i64 G]) ∧ IntsA w' w'.heap.size Av L ∧ IntsA w' w'.heap.size As M ∧ Below wx.heap.size wx w') := fun wx hb => by
    have h9 := pWalk_any A1 A2 c1 c2 c A cap F x wx (HC.out wx hb).1 (HC.out wx hb).2.1 (HC.out wx hb).2.2
    unfold WalkRes at h9
    rw [hG, hL, hM] at h9
    exact h9
  have H44 : Hid (∀ wx, Below (w.heap.size + 1) (w.alloc (.cells #[.slice A1 c.weights.length c1, .slice A2 c.tests.length c2] 36)) wx → Calls Tryd.prog 44 #[.agg #[.slice A1 c.weights.length c1, .slice A2 c.tests.length c2], .slice A F.length cap, .int .i64 x] wx fun e w' => ∃ Av cv As cs, e = .returned (.tuple #[.slice Av L.length cv, .slice As M.length cs, .int .i64 G]) ∧ IntsA w' w'.heap.size Av L ∧ IntsA w' w'.heap.size As M ∧ Below wx.heap.size wx w') := fun wx hb => by
    have h9 := rWalk_any A1 A2 c1 c2 c A cap F x wx (HC.out wx hb).1 (HC.out wx hb).2.2
    unfold WalkRes at h9
    rw [hG, hL, hM] at h9
    exact h9
  have HW : Hid (∀ wx, Below (w.heap.size + 1) (w.alloc (.cells #[.slice A1 c.weights.length c1, .slice A2 c.tests.length c2] 36)) wx → Calls Tryd.prog 18 #[] wx fun e w' => e = .returned (.bool true) ∧ Below wx.heap.size wx w') := fun wx hb => works_any wx (HC.out wx hb).2.1
  have H24 : Hid (∀ (A B : Option Addr) (a b : Nat) (l : List Int) (wx : World), IntsA wx wx.heap.size A l → IntsA wx wx.heap.size B l → Calls Tryd.prog 24 #[.slice A l.length a, .slice B l.length b] wx fun e w' => e = .returned (.bool true) ∧ Below wx.heap.size wx w') := fun A B a b l wx hA hB => same_ints A B a b l l wx hA hB (decide_eq_true rfl)
  have q0 := BW.cell (B := w.heap.size + 1) (W := (w.alloc (.cells #[.slice A1 c.weights.length c1, .slice A2 c.tests.length c2] 36))) (show w.heap.size < w.heap.size + 1 by omega) n0
  have q1 := BW.cell (B := w.heap.size + 1) (W := (w.alloc (.cells #[.slice A1 c.weights.length c1, .slice A2 c.tests.length c2] 36))) (show w.heap.size < w.heap.size + 1 by omega) n1
  have hfl := hF.1
  unfold maxLen at hfl
  clear hE hK hG hL hM hT h hF n0 n1
  rcases hb1' : decide ((200 : Int) < F.length)
  · skip
    go_enter Tryd.func11, Tryd.ntmps11
    go_wp2_with fail
    refine wp_region_below (w.heap.size + 1) _ (Below.refl _ _) (by kernel_rfl) (by kernel_rfl) ?_
    repeat (go_big_quiet_step (first | (go_at_call 40; exact quiet_below (by simp) (H40.out _)) | (go_at_call 41; exact quiet_below (by simp) (H41.out _))))
    refine wpQuiet_nil ?_
    intro s'
    have HB0 := Lib.hid s'.2
    generalize s'.1 = w0 at *
    clear q0 q1
    obtain ⟨p0, p1⟩ := HN.out w0 HB0.out
    go_wp2_with (first | (go_at_call 38; refine (H38.out _ HB0.out).mono ?_; rintro e w2 ⟨rfl, hb2⟩; have HB2 : Hid (Below (w.heap.size + 1) (w.alloc (.cells #[.slice A1 c.weights.length c1, .slice A2 c.tests.length c2] 36)) w2) := HB0.out.trans (hb2.mono (by have := HB0.out.size; omega)); obtain ⟨r0, r1⟩ := HN.out w2 HB2.out; clear hb2) | (go_at_call 42; refine (H42.out _ HB2.out).mono ?_; rintro e w3 ⟨rfl, hb3⟩; have HB3 : Hid (Below (w.heap.size + 1) (w.alloc (.cells #[.slice A1 c.weights.length c1, .slice A2 c.tests.length c2] 36)) w3) := HB2.out.trans (hb3.mono (by have := HB2.out.size; omega)); obtain ⟨s0, s1⟩ := HN.out w3 HB3.out; clear hb3) | (go_at_call 43; refine (H43.out _ HB3.out).mono ?_; rintro e w4 ⟨Aa, ca, Ab, cb, rfl, hIa, hIb, hb4⟩; have HIA := Lib.hid hIa; have HIB := Lib.hid hIb; have HB4 : Hid (Below (w.heap.size + 1) (w.alloc (.cells #[.slice A1 c.weights.length c1, .slice A2 c.tests.length c2] 36)) w4) := HB3.out.trans (hb4.mono (by have := HB3.out.size; omega)); obtain ⟨u0, u1⟩ := HN.out w4 HB4.out; clear hb4 hIa hIb) | (go_at_call 44; refine (H44.out _ HB4.out).mono ?_; rintro e w5 ⟨Ac, cc, Ad, cd, rfl, hIc, hId, hb5⟩; have HIC := Lib.hid hIc; have HID := Lib.hid hId; have HIA5 := Lib.hid ((HIA.out.keep hb5).more hb5.size); have HIB5 := Lib.hid ((HIB.out.keep hb5).more hb5.size); have HB5 : Hid (Below (w.heap.size + 1) (w.alloc (.cells #[.slice A1 c.weights.length c1, .slice A2 c.tests.length c2] 36)) w5) := HB4.out.trans (hb5.mono (by have := HB4.out.size; omega)); clear hb5 hIc hId) | (go_at_call 24; (with_reducible refine (H24.out Aa Ac ca cc L _ HIA5.out HIC.out).mono ?_); rintro e w6 ⟨rfl, hb6⟩; have HIB6 := Lib.hid ((HIB5.out.keep hb6).more hb6.size); have HID6 := Lib.hid ((HID.out.keep hb6).more hb6.size); have HB6 : Hid (Below (w.heap.size + 1) (w.alloc (.cells #[.slice A1 c.weights.length c1, .slice A2 c.tests.length c2] 36)) w6) := HB5.out.trans (hb6.mono (by have := HB5.out.size; omega)); clear hb6) | (go_at_call 24; (with_reducible refine (H24.out Ab Ad cb cd M _ HIB6.out HID6.out).mono ?_); rintro e w7 ⟨rfl, hb7⟩; have HB7 : Hid (Below (w.heap.size + 1) (w.alloc (.cells #[.slice A1 c.weights.length c1, .slice A2 c.tests.length c2] 36)) w7) := HB6.out.trans (hb7.mono (by have := HB6.out.size; omega)); clear hb7) | (go_at_call 18; refine (HW.out _ HB7.out).mono ?_; rintro e w8 ⟨rfl, hb8⟩))
    go_ret
    exact ⟨rfl, (hb1.trans (HB7.out.mono (by omega))).trans (hb8.mono (by have := HB7.out.size; omega))⟩
  · rcases hb2' : decide ((F.length : Int) ≤ 5000)
    · skip
      go_enter Tryd.func11, Tryd.ntmps11
      go_wp2_with fail
      refine wp_region_below (w.heap.size + 1) _ (Below.refl _ _) (by kernel_rfl) (by kernel_rfl) ?_
      repeat (go_big_quiet_step (first | (go_at_call 40; exact quiet_below (by simp) (H40.out _)) | (go_at_call 41; exact quiet_below (by simp) (H41.out _))))
      refine wpQuiet_nil ?_
      intro s'
      have HB0 := Lib.hid s'.2
      generalize s'.1 = w0 at *
      clear q0 q1
      obtain ⟨p0, p1⟩ := HN.out w0 HB0.out
      go_wp2_with (first | (go_at_call 38; refine (H38.out _ HB0.out).mono ?_; rintro e w2 ⟨rfl, hb2⟩; have HB2 : Hid (Below (w.heap.size + 1) (w.alloc (.cells #[.slice A1 c.weights.length c1, .slice A2 c.tests.length c2] 36)) w2) := HB0.out.trans (hb2.mono (by have := HB0.out.size; omega)); obtain ⟨r0, r1⟩ := HN.out w2 HB2.out; clear hb2) | (go_at_call 42; refine (H42.out _ HB2.out).mono ?_; rintro e w3 ⟨rfl, hb3⟩; have HB3 : Hid (Below (w.heap.size + 1) (w.alloc (.cells #[.slice A1 c.weights.length c1, .slice A2 c.tests.length c2] 36)) w3) := HB2.out.trans (hb3.mono (by have := HB2.out.size; omega)); obtain ⟨s0, s1⟩ := HN.out w3 HB3.out; clear hb3) | (go_at_call 43; refine (H43.out _ HB3.out).mono ?_; rintro e w4 ⟨Aa, ca, Ab, cb, rfl, hIa, hIb, hb4⟩; have HIA := Lib.hid hIa; have HIB := Lib.hid hIb; have HB4 : Hid (Below (w.heap.size + 1) (w.alloc (.cells #[.slice A1 c.weights.length c1, .slice A2 c.tests.length c2] 36)) w4) := HB3.out.trans (hb4.mono (by have := HB3.out.size; omega)); obtain ⟨u0, u1⟩ := HN.out w4 HB4.out; clear hb4 hIa hIb) | (go_at_call 44; refine (H44.out _ HB4.out).mono ?_; rintro e w5 ⟨Ac, cc, Ad, cd, rfl, hIc, hId, hb5⟩; have HIC := Lib.hid hIc; have HID := Lib.hid hId; have HIA5 := Lib.hid ((HIA.out.keep hb5).more hb5.size); have HIB5 := Lib.hid ((HIB.out.keep hb5).more hb5.size); have HB5 : Hid (Below (w.heap.size + 1) (w.alloc (.cells #[.slice A1 c.weights.length c1, .slice A2 c.tests.length c2] 36)) w5) := HB4.out.trans (hb5.mono (by have := HB4.out.size; omega)); clear hb5 hIc hId) | (go_at_call 24; (with_reducible refine (H24.out Aa Ac ca cc L _ HIA5.out HIC.out).mono ?_); rintro e w6 ⟨rfl, hb6⟩; have HIB6 := Lib.hid ((HIB5.out.keep hb6).more hb6.size); have HID6 := Lib.hid ((HID.out.keep hb6).more hb6.size); have HB6 : Hid (Below (w.heap.size + 1) (w.alloc (.cells #[.slice A1 c.weights.length c1, .slice A2 c.tests.length c2] 36)) w6) := HB5.out.trans (hb6.mono (by have := HB5.out.size; omega)); clear hb6) | (go_at_call 24; (with_reducible refine (H24.out Ab Ad cb cd M _ HIB6.out HID6.out).mono ?_); rintro e w7 ⟨rfl, hb7⟩; have HB7 : Hid (Below (w.heap.size + 1) (w.alloc (.cells #[.slice A1 c.weights.length c1, .slice A2 c.tests.length c2] 36)) w7) := HB6.out.trans (hb7.mono (by have := HB6.out.size; omega)); clear hb7) | (go_at_call 18; refine (HW.out _ HB7.out).mono ?_; rintro e w8 ⟨rfl, hb8⟩))
      go_ret
      exact ⟨rfl, (hb1.trans (HB7.out.mono (by omega))).trans (hb8.mono (by have := HB7.out.size; omega))⟩
    · go_enter Tryd.func11, Tryd.ntmps11
      go_wp2_with (go_at_call 18; refine (HW.out _ (Below.refl _ _)).mono ?_; rintro e w8 ⟨rfl, hb8⟩)
      go_ret
      exact ⟨rfl, hb1.trans (hb8.mono (by omega))⟩
end Go.Proofs.YtonpemikodajdaaDoor
