/- Walks: CheckGuide, Cost and Walk, by the program and by the reference. -/
import Derived.Test.YtonpemikodajdaaDoorTc
import Derived.Test.YtonpemikodajdaaDoorRw2
import Derived.Test.YtonpemikodajdaaDoorRr2
namespace Go.Proofs.YtonpemikodajdaaDoor
open Go.RowKit

def guideE (c : MCase) (F : List MFork) : Int := if caseB c = true then (if rightB c F = true then 0 else 102) else 101
def costE (c : MCase) (F : List MFork) : Int := if guideE c F = 0 then costTo c F c.weights.length else 0
def walkE (c : MCase) (F : List MFork) (x : Int) : Int := if guideE c F = 0 then (if inB x 0 ((c.weights.length : Int) - 1) = true then 0 else 1) else guideE c F
def walkL (c : MCase) (F : List MFork) (x : Int) : List Int := if walkE c F x = 0 then walkT c F x.toNat else []
def walkM (c : MCase) (F : List MFork) (x : Int) : List Int := if walkE c F x = 0 then (fk F (leafT c F x.toNat)).set else []
theorem guideE_case {c : MCase} {F : List MFork} (h : caseB c = false) : guideE c F = 101 := by
  unfold guideE; rw [h]; rfl
theorem guideE_no {c : MCase} {F : List MFork} (h : caseB c = true) (h2 : rightB c F = false) : guideE c F = 102 := by
  unfold guideE; rw [h, h2]; rfl
theorem guideE_yes {c : MCase} {F : List MFork} (h : caseB c = true) (h2 : rightB c F = true) : guideE c F = 0 := by
  unfold guideE; rw [h, h2]; rfl
theorem guideE_cases (c : MCase) (F : List MFork) : (guideE c F = 0 ∧ caseB c = true ∧ rightB c F = true) ∨ (guideE c F ≠ 0 ∧ (guideE c F = 101 ∨ guideE c F = 102)) := by
  rcases h : caseB c
  · exact .inr ⟨by rw [guideE_case h]; decide, .inl (guideE_case h)⟩
  · rcases h2 : rightB c F
    · exact .inr ⟨by rw [guideE_no h h2]; decide, .inr (guideE_no h h2)⟩
    · exact .inl ⟨guideE_yes h h2, rfl, rfl⟩

set_option maxRecDepth 100000 in
set_option maxHeartbeats 2000000 in
theorem cguide_any (A1 A2 : Option Addr) (c1 c2 : Nat) (c : MCase) (A : Option Addr) (cap : Nat) (F : List MFork) (w : World) (h : CaseA w w.heap.size A1 A2 c) (hT : TabW w) (hF : ForksA w w.heap.size A F) {r : Int} (hr : guideE c F = r) :
    Calls Tryd.prog 40 #[.agg #[.slice A1 c.weights.length c1, .slice A2 c.tests.length c2], .slice A F.length cap] w fun e w' => e = .returned (.int .i64 r) ∧ Below w.heap.size w w' := by
  have hb1 : Below w.heap.size w (w.alloc (.cells #[.slice A1 c.weights.length c1, .slice A2 c.tests.length c2] 36)) := (Below.refl _ _).alloc (Nat.le_refl _) _
  have hsz : (w.alloc (.cells #[.slice A1 c.weights.length c1, .slice A2 c.tests.length c2] 36)).heap.size = w.heap.size + 1 := by simp
  have n0 := newcell w #[.slice A1 c.weights.length c1, .slice A2 c.tests.length c2] 36 0
  have n1 := newcell w #[.slice A1 c.weights.length c1, .slice A2 c.tests.length c2] 36 1
  simp only [List.getElem?_toArray, List.getElem?_cons_succ, List.getElem?_cons_zero] at n0 n1
  rcases hv : caseB c
  · rw [guideE_case hv] at hr
    subst hr
    have HC := Lib.hid (check_any A1 A2 c1 c2 c (w.alloc (.cells #[.slice A1 c.weights.length c1, .slice A2 c.tests.length c2] 36)) ((h.keep hb1).more hb1.size) (checkC_no hv))
    clear hv
    go_enter Tryd.func40, Tryd.ntmps40
    go_wp2_with (go_at_call 27; refine HC.out.mono ?_; rintro e w2 ⟨rfl, hb2⟩)
    go_ret
    exact ⟨rfl, hb1.trans (hb2.mono (by omega))⟩
  · have HC := Lib.hid (check_any A1 A2 c1 c2 c (w.alloc (.cells #[.slice A1 c.weights.length c1, .slice A2 c.tests.length c2] 36)) ((h.keep hb1).more hb1.size) (checkC_yes hv))
    obtain ⟨b, hbb⟩ : ∃ b, rightB c F = b := ⟨_, rfl⟩
    have HRT : Hid (∀ wx, Below (w.heap.size + 1) (w.alloc (.cells #[.slice A1 c.weights.length c1, .slice A2 c.tests.length c2] 36)) wx → Calls Tryd.prog 76 #[.agg #[.slice A1 c.weights.length c1, .slice A2 c.tests.length c2], .slice A F.length cap] wx fun e w' => e = .returned (.bool b) ∧ Below wx.heap.size wx w') := fun wx hb => by
      have hbw := hb1.trans (hb.mono (by omega))
      exact right_any A1 A2 c1 c2 c A cap F wx ((h.keep hbw).more hbw.size) (hT.keep hbw) hv ((hF.keep hbw).more hbw.size) hbb
    have HN : Hid (∀ wx, Below (w.heap.size + 1) (w.alloc (.cells #[.slice A1 c.weights.length c1, .slice A2 c.tests.length c2] 36)) wx → wx.cell? ⟨w.heap.size, 0, none⟩ = some (.slice A1 c.weights.length c1) ∧ wx.cell? ⟨w.heap.size, 1, none⟩ = some (.slice A2 c.tests.length c2)) := fun wx hb => ⟨(bcell hb _ _ (by omega)).trans n0, (bcell hb _ _ (by omega)).trans n1⟩
    rcases b with _ | _
    · rw [guideE_no hv hbb] at hr
      subst hr
      clear hv hbb
      go_enter Tryd.func40, Tryd.ntmps40
      go_wp2_with (first | (go_at_call 27; refine HC.out.mono ?_; rintro e w2 ⟨rfl, hb2⟩; have HB2 : Hid (Below (w.heap.size + 1) (w.alloc (.cells #[.slice A1 c.weights.length c1, .slice A2 c.tests.length c2] 36)) w2) := hb2.mono (by omega); obtain ⟨p0, p1⟩ := HN.out w2 HB2.out; clear hb2) | (go_at_call 76; refine (HRT.out _ HB2.out).mono ?_; rintro e w3 ⟨rfl, hb3⟩; have HB3 := Lib.hid hb3; clear hb3))
      go_ret
      exact ⟨rfl, (hb1.trans (HB2.out.mono (by omega))).trans (HB3.out.mono (by have := HB2.out.size; omega))⟩
    · rw [guideE_yes hv hbb] at hr
      subst hr
      clear hv hbb
      go_enter Tryd.func40, Tryd.ntmps40
      go_wp2_with (first | (go_at_call 27; refine HC.out.mono ?_; rintro e w2 ⟨rfl, hb2⟩; have HB2 : Hid (Below (w.heap.size + 1) (w.alloc (.cells #[.slice A1 c.weights.length c1, .slice A2 c.tests.length c2] 36)) w2) := hb2.mono (by omega); obtain ⟨p0, p1⟩ := HN.out w2 HB2.out; clear hb2) | (go_at_call 76; refine (HRT.out _ HB2.out).mono ?_; rintro e w3 ⟨rfl, hb3⟩; have HB3 := Lib.hid hb3; clear hb3))
      go_ret
      exact ⟨rfl, (hb1.trans (HB2.out.mono (by omega))).trans (HB3.out.mono (by have := HB2.out.size; omega))⟩

set_option maxRecDepth 100000 in
set_option maxHeartbeats 2000000 in
theorem rcguide_any (A1 A2 : Option Addr) (c1 c2 : Nat) (c : MCase) (A : Option Addr) (cap : Nat) (F : List MFork) (w : World) (h : CaseA w w.heap.size A1 A2 c) (hF : ForksA w w.heap.size A F) {r : Int} (hr : guideE c F = r) :
    Calls Tryd.prog 41 #[.agg #[.slice A1 c.weights.length c1, .slice A2 c.tests.length c2], .slice A F.length cap] w fun e w' => e = .returned (.int .i64 r) ∧ Below w.heap.size w w' := by
  have hb1 : Below w.heap.size w (w.alloc (.cells #[.slice A1 c.weights.length c1, .slice A2 c.tests.length c2] 36)) := (Below.refl _ _).alloc (Nat.le_refl _) _
  have hsz : (w.alloc (.cells #[.slice A1 c.weights.length c1, .slice A2 c.tests.length c2] 36)).heap.size = w.heap.size + 1 := by simp
  have n0 := newcell w #[.slice A1 c.weights.length c1, .slice A2 c.tests.length c2] 36 0
  have n1 := newcell w #[.slice A1 c.weights.length c1, .slice A2 c.tests.length c2] 36 1
  simp only [List.getElem?_toArray, List.getElem?_cons_succ, List.getElem?_cons_zero] at n0 n1
  rcases hv : caseB c
  · rw [guideE_case hv] at hr
    subst hr
    have HC := Lib.hid (rccheck_any A1 A2 c1 c2 c (w.alloc (.cells #[.slice A1 c.weights.length c1, .slice A2 c.tests.length c2] 36)) ((h.keep hb1).more hb1.size) (checkC_no hv))
    clear hv
    go_enter Tryd.func41, Tryd.ntmps41
    go_wp2_with (go_at_call 28; refine HC.out.mono ?_; rintro e w2 ⟨rfl, hb2⟩)
    go_ret
    exact ⟨rfl, hb1.trans (hb2.mono (by omega))⟩
  · have HC := Lib.hid (rccheck_any A1 A2 c1 c2 c (w.alloc (.cells #[.slice A1 c.weights.length c1, .slice A2 c.tests.length c2] 36)) ((h.keep hb1).more hb1.size) (checkC_yes hv))
    obtain ⟨b, hbb⟩ : ∃ b, rightB c F = b := ⟨_, rfl⟩
    have HRT : Hid (∀ wx, Below (w.heap.size + 1) (w.alloc (.cells #[.slice A1 c.weights.length c1, .slice A2 c.tests.length c2] 36)) wx → Calls Tryd.prog 77 #[.agg #[.slice A1 c.weights.length c1, .slice A2 c.tests.length c2], .slice A F.length cap] wx fun e w' => e = .returned (.bool b) ∧ Below wx.heap.size wx w') := fun wx hb => by
      have hbw := hb1.trans (hb.mono (by omega))
      exact rright_any A1 A2 c1 c2 c A cap F wx ((h.keep hbw).more hbw.size) hv ((hF.keep hbw).more hbw.size) ((right_eq (caseOk hv).n1 F).trans hbb)
    have HN : Hid (∀ wx, Below (w.heap.size + 1) (w.alloc (.cells #[.slice A1 c.weights.length c1, .slice A2 c.tests.length c2] 36)) wx → wx.cell? ⟨w.heap.size, 0, none⟩ = some (.slice A1 c.weights.length c1) ∧ wx.cell? ⟨w.heap.size, 1, none⟩ = some (.slice A2 c.tests.length c2)) := fun wx hb => ⟨(bcell hb _ _ (by omega)).trans n0, (bcell hb _ _ (by omega)).trans n1⟩
    rcases b with _ | _
    · rw [guideE_no hv hbb] at hr
      subst hr
      clear hv hbb
      go_enter Tryd.func41, Tryd.ntmps41
      go_wp2_with (first | (go_at_call 28; refine HC.out.mono ?_; rintro e w2 ⟨rfl, hb2⟩; have HB2 : Hid (Below (w.heap.size + 1) (w.alloc (.cells #[.slice A1 c.weights.length c1, .slice A2 c.tests.length c2] 36)) w2) := hb2.mono (by omega); obtain ⟨p0, p1⟩ := HN.out w2 HB2.out; clear hb2) | (go_at_call 77; refine (HRT.out _ HB2.out).mono ?_; rintro e w3 ⟨rfl, hb3⟩; have HB3 := Lib.hid hb3; clear hb3))
      go_ret
      exact ⟨rfl, (hb1.trans (HB2.out.mono (by omega))).trans (HB3.out.mono (by have := HB2.out.size; omega))⟩
    · rw [guideE_yes hv hbb] at hr
      subst hr
      clear hv hbb
      go_enter Tryd.func41, Tryd.ntmps41
      go_wp2_with (first | (go_at_call 28; refine HC.out.mono ?_; rintro e w2 ⟨rfl, hb2⟩; have HB2 : Hid (Below (w.heap.size + 1) (w.alloc (.cells #[.slice A1 c.weights.length c1, .slice A2 c.tests.length c2] 36)) w2) := hb2.mono (by omega); obtain ⟨p0, p1⟩ := HN.out w2 HB2.out; clear hb2) | (go_at_call 77; refine (HRT.out _ HB2.out).mono ?_; rintro e w3 ⟨rfl, hb3⟩; have HB3 := Lib.hid hb3; clear hb3))
      go_ret
      exact ⟨rfl, (hb1.trans (HB2.out.mono (by omega))).trans (HB3.out.mono (by have := HB2.out.size; omega))⟩

/-- what Walk answers -/
def WalkRes (w : World) (c : MCase) (F : List MFork) (x : Int) (e : Ending) (w' : World) : Prop :=
  ∃ Av cv As cs, e = .returned (.tuple #[.slice Av (walkL c F x).length cv, .slice As (walkM c F x).length cs, .int .i64 (walkE c F x)]) ∧ IntsA w' w'.heap.size Av (walkL c F x) ∧ IntsA w' w'.heap.size As (walkM c F x) ∧ Below w.heap.size w w'
theorem ints_nil (w : World) (B : Nat) (A : Option Addr) : IntsA w B A [] := ⟨Nat.zero_le _, fun h => absurd h (by simp)⟩
theorem walkRes_no {w w' : World} {c : MCase} {F : List MFork} {x : Int} {E : Int} (hE : walkE c F x = E) (h0 : E ≠ 0) (hb : Below w.heap.size w w') : WalkRes w c F x (.returned (.tuple #[.slice none 0 0, .slice none 0 0, .int .i64 E])) w' := by
  have e1 : walkL c F x = [] := by unfold walkL; rw [hE, if_neg h0]
  have e2 : walkM c F x = [] := by unfold walkM; rw [hE, if_neg h0]
  exact ⟨none, 0, none, 0, by rw [e1, e2, hE]; rfl, by rw [e1]; exact ints_nil _ _ _, by rw [e2]; exact ints_nil _ _ _, hb⟩
theorem walkE_no {c : MCase} {F : List MFork} {x : Int} (h : guideE c F ≠ 0) : walkE c F x = guideE c F := by unfold walkE; rw [if_neg h]
theorem walkE_yes {c : MCase} {F : List MFork} {x : Int} (h : guideE c F = 0) : walkE c F x = if inB x 0 ((c.weights.length : Int) - 1) = true then 0 else 1 := by unfold walkE; rw [if_pos h]

set_option maxRecDepth 100000 in
set_option maxHeartbeats 4000000 in
theorem pWalk_any (A1 A2 : Option Addr) (c1 c2 : Nat) (c : MCase) (A : Option Addr) (cap : Nat) (F : List MFork) (x : Int) (w : World) (h : CaseA w w.heap.size A1 A2 c) (hT : TabW w) (hF : ForksA w w.heap.size A F) :
    Calls Tryd.prog 43 #[.agg #[.slice A1 c.weights.length c1, .slice A2 c.tests.length c2], .slice A F.length cap, .int .i64 x] w (WalkRes w c F x) := by
  have hb1 : Below w.heap.size w (w.alloc (.cells #[.slice A1 c.weights.length c1, .slice A2 c.tests.length c2] 36)) := (Below.refl _ _).alloc (Nat.le_refl _) _
  have hsz : (w.alloc (.cells #[.slice A1 c.weights.length c1, .slice A2 c.tests.length c2] 36)).heap.size = w.heap.size + 1 := by simp
  have n0 := newcell w #[.slice A1 c.weights.length c1, .slice A2 c.tests.length c2] 36 0
  have n1 := newcell w #[.slice A1 c.weights.length c1, .slice A2 c.tests.length c2] 36 1
  simp only [List.getElem?_toArray, List.getElem?_cons_succ, List.getElem?_cons_zero] at n0 n1
  have HN : Hid (∀ wx, Below (w.heap.size + 1) (w.alloc (.cells #[.slice A1 c.weights.length c1, .slice A2 c.tests.length c2] 36)) wx → wx.cell? ⟨w.heap.size, 0, none⟩ = some (.slice A1 c.weights.length c1) ∧ wx.cell? ⟨w.heap.size, 1, none⟩ = some (.slice A2 c.tests.length c2)) := fun wx hb => ⟨(bcell hb _ _ (by omega)).trans n0, (bcell hb _ _ (by omega)).trans n1⟩
  obtain ⟨E, hE⟩ : ∃ E, guideE c F = E := ⟨_, rfl⟩
  have HG := Lib.hid (cguide_any A1 A2 c1 c2 c A cap F (w.alloc (.cells #[.slice A1 c.weights.length c1, .slice A2 c.tests.length c2] 36)) ((h.keep hb1).more hb1.size) (hT.keep hb1) ((hF.keep hb1).more hb1.size) hE)
  rcases guideE_cases c F with ⟨h0, hcb, hrb⟩ | ⟨h0, h1⟩
  rotate_left
  · have hWE := walkE_no (x := x) h0
    rw [hE] at hWE h0 h1
    have HWE := Lib.hid hWE
    have H0 : Hid (E ≠ 0) := h0
    clear hE hWE h0
    rcases h1 with rfl | rfl
    all_goals
      go_enter Tryd.func43, Tryd.ntmps43
      go_wp2_with (go_at_call 40; refine HG.out.mono ?_; rintro e w2 ⟨rfl, hb2⟩)
      go_ret3
      exact walkRes_no HWE.out H0.out (hb1.trans (hb2.mono (by omega)))
  · have hWE := walkE_yes (x := x) h0
    have hok := caseOk hcb
    have hn1 := hok.n1
    have hn2 := hok.n2
    obtain rfl : E = 0 := hE.symm.trans h0
    have hwr : IntKind.i64.wrap ((c.weights.length : Int) - 1) = (c.weights.length : Int) - 1 := IntWalk.i64_in _ (by omega)
    obtain ⟨S, hT2, hS⟩ := tree_ok hok hrb
    have HOK := Lib.hid hok
    have HTR := Lib.hid hT2
    have HSS := Lib.hid hS
    have HWK : Hid (∀ wx, Below (w.heap.size + 1) (w.alloc (.cells #[.slice A1 c.weights.length c1, .slice A2 c.tests.length c2] 36)) wx → CaseA wx wx.heap.size A1 A2 c ∧ ForksA wx wx.heap.size A F) := fun wx hb => by
      have hbw := hb1.trans (hb.mono (by omega))
      exact ⟨(h.keep hbw).more hbw.size, (hF.keep hbw).more hbw.size⟩
    rcases hin : inB x 0 ((c.weights.length : Int) - 1)
    · rw [hin] at hWE
      have HWE : Hid (walkE c F x = 1) := hWE
      have HIN := Lib.hid hin
      clear hE hWE h0 hin hcb hrb hok hT2 hS
      go_enter Tryd.func43, Tryd.ntmps43
      go_wp2_with (first | (go_at_call 40; refine HG.out.mono ?_; rintro e w2 ⟨rfl, hb2⟩; have HB2 : Hid (Below (w.heap.size + 1) (w.alloc (.cells #[.slice A1 c.weights.length c1, .slice A2 c.tests.length c2] 36)) w2) := hb2.mono (by omega); obtain ⟨p0, p1⟩ := HN.out w2 HB2.out; clear hb2) | (go_at_call 66; refine (within_b _ _ _ _ _ HIN.out).mono ?_; rintro e w3 ⟨rfl, rfl⟩))
      go_ret3
      exact walkRes_no HWE.out (by decide) (hb1.trans (HB2.out.mono (by omega)))
    · rw [hin] at hWE
      have hWE : walkE c F x = 0 := hWE
      have HIN := Lib.hid hin
      have hxx := inB_iff'.1 hin
      obtain ⟨y, rfl⟩ : ∃ y : Nat, x = (y : Int) := ⟨x.toNat, by omega⟩
      have hwy := walk_all hok hT2 hS (x := y) (by omega)
      have HWY := Lib.hid hwy
      have HL : Hid (walkL c F (y : Int) = walkT c F y) := by show _ = _; unfold walkL; rw [hWE, if_pos rfl, Int.toNat_natCast]
      have HM : Hid (walkM c F (y : Int) = (fk F (leafT c F y)).set) := by show _ = _; unfold walkM; rw [hWE, if_pos rfl, Int.toNat_natCast]
      have HWE := Lib.hid hWE
      have HBX : Hid ((S 0).testBit y = true) := by show _ = _; rw [hT2.root]; exact full_bit (by omega)
      have hsl : (fk F (leafT c F y)).set.length ≤ 1000 := by
        rw [hT2.set _ hwy.l]
        have := bitsI_len (S (leafT c F y))
        omega
      have hln := hwy.n
      have HCW : Hid (∀ wx, Below (w.heap.size + 1) (w.alloc (.cells #[.slice A1 c.weights.length c1, .slice A2 c.tests.length c2] 36)) wx → Calls Tryd.prog 75 #[.agg #[.slice A1 c.weights.length c1, .slice A2 c.tests.length c2], .slice A F.length cap, .int .i64 y] wx (WalkPost wx F (walkT c F y) (leafT c F y))) := fun wx hb => walk_any A1 A2 c1 c2 c A cap F S y (leafT c F y) (walkT c F y) wx (HWK.out wx hb).1 hok (HWK.out wx hb).2 hT2 hS HBX.out hwy.w
      clear hE hWE h0 hin hcb hrb hok hT2 hS hwy hxx HBX HTR HSS HOK
      generalize walkT c F y = L at *
      generalize leafT c F y = j at *
      obtain ⟨M, hM⟩ : ∃ M, (fk F j).set = M := ⟨_, rfl⟩
      rw [hM] at hsl HM
      have HMM := Lib.hid hM
      clear hM
      go_enter Tryd.func43, Tryd.ntmps43
      go_upto_region 7 with (first | (go_at_call 40; refine HG.out.mono ?_; rintro e w2 ⟨rfl, hb2⟩; have HB2 : Hid (Below (w.heap.size + 1) (w.alloc (.cells #[.slice A1 c.weights.length c1, .slice A2 c.tests.length c2] 36)) w2) := hb2.mono (by omega); obtain ⟨p0, p1⟩ := HN.out w2 HB2.out; clear hb2) | (go_at_call 66; refine (within_b _ _ _ _ _ HIN.out).mono ?_; rintro e w3 ⟨rfl, rfl⟩) | (go_at_call 75; refine (HCW.out _ HB2.out).mono ?_; rintro e w4 ⟨v4, An, cn, As, cs, rfl, hO4, hcs, hI4, hb4⟩; have HO4 := Lib.hid hO4; have HI4 := Lib.hid hI4; obtain ⟨Av, cv, hv4, hcv, _⟩ := HO4.out.reads; subst hv4; have HB4 := Lib.hid hb4; have HCS := Lib.hid hcs; clear hO4 hI4 hb4 hcs hcv))
      have hs2 := HB2.out.size
      have hs4 := HB4.out.size
      have HB5 := Lib.hid ((hb1.trans (HB2.out.mono (by omega))).trans (HB4.out.mono (by omega)))
      obtain ⟨ti, hti⟩ : ∃ ti, (fk F j).test = ti := ⟨_, rfl⟩
      obtain ⟨ni, hni⟩ : ∃ ni, (fk F j).next.length = ni := ⟨_, rfl⟩
      rw [hti, hni, HMM.out]
      rw [HMM.out] at HI4 HCS
      have t2 := newcell w4 #[.int .i64 ti, .slice An ni cn, .slice As M.length cs] 110 2
      simp only [List.getElem?_toArray, List.getElem?_cons_succ, List.getElem?_cons_zero] at t2
      have HCL : Hid (Calls Tryd.prog 79 #[.slice As M.length cs] (w4.alloc (.cells #[.int .i64 ti, .slice An ni cn, .slice As M.length cs] 110)) fun e w' => ∃ v, e = .returned v ∧ OutI w' (w4.alloc (.cells #[.int .i64 ti, .slice An ni cn, .slice As M.length cs] 110)).heap.size v M ∧ Below (w4.alloc (.cells #[.int .i64 ti, .slice An ni cn, .slice As M.length cs] 110)).heap.size (w4.alloc (.cells #[.int .i64 ti, .slice An ni cn, .slice As M.length cs] 110)) w') := clone_ints As cs M _ (IntsA.alloc (HI4.out.more hs4) (Nat.le_refl _) _ (by simp)) hsl
      clear hti hni
      go_wp2_with (go_at_call 79; refine HCL.out.mono ?_; rintro e w6 ⟨v6, rfl, hO6, hb6⟩; have HO6 := Lib.hid hO6; have HB6 := Lib.hid hb6; clear hO6 hb6)
      go_ret3
      obtain ⟨A6, c6, hv6, _, hI6⟩ := HO6.out.reads
      refine ⟨Av, cv, A6, c6, by rw [HL.out, HM.out, HWE.out, hv6]; rfl, ?_, by rw [HM.out]; exact hI6, ?_⟩
      · rw [HL.out]
        obtain ⟨A4, c4, hv4, _, hI⟩ := HO4.out.reads
        injection hv4 with hv4
        subst hv4
        exact ((hI.below ((Below.refl _ _).alloc (Nat.le_refl _) _) (Nat.le_refl _)).below (HB6.out.mono (by simp)) (by simp)).more HB6.out.size
      · exact (HB5.out.alloc (by omega) _).trans (HB6.out.mono (by simp; omega))

set_option maxRecDepth 100000 in
set_option maxHeartbeats 4000000 in
theorem rWalk_any (A1 A2 : Option Addr) (c1 c2 : Nat) (c : MCase) (A : Option Addr) (cap : Nat) (F : List MFork) (x : Int) (w : World) (h : CaseA w w.heap.size A1 A2 c) (hF : ForksA w w.heap.size A F) :
    Calls Tryd.prog 44 #[.agg #[.slice A1 c.weights.length c1, .slice A2 c.tests.length c2], .slice A F.length cap, .int .i64 x] w (WalkRes w c F x) := by
  have hb1 : Below w.heap.size w (w.alloc (.cells #[.slice A1 c.weights.length c1, .slice A2 c.tests.length c2] 36)) := (Below.refl _ _).alloc (Nat.le_refl _) _
  have hsz : (w.alloc (.cells #[.slice A1 c.weights.length c1, .slice A2 c.tests.length c2] 36)).heap.size = w.heap.size + 1 := by simp
  have n0 := newcell w #[.slice A1 c.weights.length c1, .slice A2 c.tests.length c2] 36 0
  have n1 := newcell w #[.slice A1 c.weights.length c1, .slice A2 c.tests.length c2] 36 1
  simp only [List.getElem?_toArray, List.getElem?_cons_succ, List.getElem?_cons_zero] at n0 n1
  have HN : Hid (∀ wx, Below (w.heap.size + 1) (w.alloc (.cells #[.slice A1 c.weights.length c1, .slice A2 c.tests.length c2] 36)) wx → wx.cell? ⟨w.heap.size, 0, none⟩ = some (.slice A1 c.weights.length c1) ∧ wx.cell? ⟨w.heap.size, 1, none⟩ = some (.slice A2 c.tests.length c2)) := fun wx hb => ⟨(bcell hb _ _ (by omega)).trans n0, (bcell hb _ _ (by omega)).trans n1⟩
  obtain ⟨E, hE⟩ : ∃ E, guideE c F = E := ⟨_, rfl⟩
  have HG := Lib.hid (rcguide_any A1 A2 c1 c2 c A cap F (w.alloc (.cells #[.slice A1 c.weights.length c1, .slice A2 c.tests.length c2] 36)) ((h.keep hb1).more hb1.size) ((hF.keep hb1).more hb1.size) hE)
  rcases guideE_cases c F with ⟨h0, hcb, hrb⟩ | ⟨h0, h1⟩
  rotate_left
  · have hWE := walkE_no (x := x) h0
    rw [hE] at hWE h0 h1
    have HWE := Lib.hid hWE
    have H0 : Hid (E ≠ 0) := h0
    clear hE hWE h0
    rcases h1 with rfl | rfl
    all_goals
      go_enter Tryd.func44, Tryd.ntmps44
      go_wp2_with (go_at_call 41; refine HG.out.mono ?_; rintro e w2 ⟨rfl, hb2⟩)
      go_ret3
      exact walkRes_no HWE.out H0.out (hb1.trans (hb2.mono (by omega)))
  · have hWE := walkE_yes (x := x) h0
    have hok := caseOk hcb
    have hn1 := hok.n1
    have hn2 := hok.n2
    obtain rfl : E = 0 := hE.symm.trans h0
    have hwr : IntKind.i64.wrap ((c.weights.length : Int) - 1) = (c.weights.length : Int) - 1 := IntWalk.i64_in _ (by omega)
    obtain ⟨S, hT2, hS⟩ := tree_ok hok hrb
    have HOK := Lib.hid hok
    have HTR := Lib.hid hT2
    have HSS := Lib.hid hS
    have HWK : Hid (∀ wx, Below (w.heap.size + 1) (w.alloc (.cells #[.slice A1 c.weights.length c1, .slice A2 c.tests.length c2] 36)) wx → CaseA wx wx.heap.size A1 A2 c ∧ ForksA wx wx.heap.size A F) := fun wx hb => by
      have hbw := hb1.trans (hb.mono (by omega))
      exact ⟨(h.keep hbw).more hbw.size, (hF.keep hbw).more hbw.size⟩
    rcases hin : inB x 0 ((c.weights.length : Int) - 1)
    · rw [hin] at hWE
      have HWE : Hid (walkE c F x = 1) := hWE
      have HIN := Lib.hid hin
      clear hE hWE h0 hin hcb hrb hok hT2 hS
      go_enter Tryd.func44, Tryd.ntmps44
      go_wp2_with (first | (go_at_call 41; refine HG.out.mono ?_; rintro e w2 ⟨rfl, hb2⟩; have HB2 : Hid (Below (w.heap.size + 1) (w.alloc (.cells #[.slice A1 c.weights.length c1, .slice A2 c.tests.length c2] 36)) w2) := hb2.mono (by omega); obtain ⟨p0, p1⟩ := HN.out w2 HB2.out; clear hb2) | (go_at_call 63; refine (rwithin_b _ _ _ _ _ HIN.out).mono ?_; rintro e w3 ⟨rfl, rfl⟩))
      go_ret3
      exact walkRes_no HWE.out (by decide) (hb1.trans (HB2.out.mono (by omega)))
    · rw [hin] at hWE
      have hWE : walkE c F x = 0 := hWE
      have HIN := Lib.hid hin
      have hxx := inB_iff'.1 hin
      obtain ⟨y, rfl⟩ : ∃ y : Nat, x = (y : Int) := ⟨x.toNat, by omega⟩
      have hwy := walk_all hok hT2 hS (x := y) (by omega)
      have HWY := Lib.hid hwy
      have HL : Hid (walkL c F (y : Int) = walkT c F y) := by show _ = _; unfold walkL; rw [hWE, if_pos rfl, Int.toNat_natCast]
      have HM : Hid (walkM c F (y : Int) = (fk F (leafT c F y)).set) := by show _ = _; unfold walkM; rw [hWE, if_pos rfl, Int.toNat_natCast]
      have HWE := Lib.hid hWE
      have HBX : Hid ((S 0).testBit y = true) := by show _ = _; rw [hT2.root]; exact full_bit (by omega)
      have hsl : (fk F (leafT c F y)).set.length ≤ 1000 := by
        rw [hT2.set _ hwy.l]
        have := bitsI_len (S (leafT c F y))
        omega
      have hln := hwy.n
      have HCW : Hid (∀ wx, Below (w.heap.size + 1) (w.alloc (.cells #[.slice A1 c.weights.length c1, .slice A2 c.tests.length c2] 36)) wx → Calls Tryd.prog 78 #[.agg #[.slice A1 c.weights.length c1, .slice A2 c.tests.length c2], .slice A F.length cap, .int .i64 y] wx (WalkPost wx F (walkT c F y) (leafT c F y))) := fun wx hb => rwalk_any A1 A2 c1 c2 c A cap F S y (leafT c F y) (walkT c F y) wx (HWK.out wx hb).1 hok (HWK.out wx hb).2 hT2 hS HBX.out hwy.w
      clear hE hWE h0 hin hcb hrb hok hT2 hS hwy hxx HBX HTR HSS HOK
      generalize walkT c F y = L at *
      generalize leafT c F y = j at *
      obtain ⟨M, hM⟩ : ∃ M, (fk F j).set = M := ⟨_, rfl⟩
      rw [hM] at hsl HM
      have HMM := Lib.hid hM
      clear hM
      go_enter Tryd.func44, Tryd.ntmps44
      go_upto_region 7 with (first | (go_at_call 41; refine HG.out.mono ?_; rintro e w2 ⟨rfl, hb2⟩; have HB2 : Hid (Below (w.heap.size + 1) (w.alloc (.cells #[.slice A1 c.weights.length c1, .slice A2 c.tests.length c2] 36)) w2) := hb2.mono (by omega); obtain ⟨p0, p1⟩ := HN.out w2 HB2.out; clear hb2) | (go_at_call 63; refine (rwithin_b _ _ _ _ _ HIN.out).mono ?_; rintro e w3 ⟨rfl, rfl⟩) | (go_at_call 78; refine (HCW.out _ HB2.out).mono ?_; rintro e w4 ⟨v4, An, cn, As, cs, rfl, hO4, hcs, hI4, hb4⟩; have HO4 := Lib.hid hO4; have HI4 := Lib.hid hI4; obtain ⟨Av, cv, hv4, hcv, _⟩ := HO4.out.reads; subst hv4; have HB4 := Lib.hid hb4; have HCS := Lib.hid hcs; clear hO4 hI4 hb4 hcs hcv))
      have hs2 := HB2.out.size
      have hs4 := HB4.out.size
      have HB5 := Lib.hid ((hb1.trans (HB2.out.mono (by omega))).trans (HB4.out.mono (by omega)))
      obtain ⟨ti, hti⟩ : ∃ ti, (fk F j).test = ti := ⟨_, rfl⟩
      obtain ⟨ni, hni⟩ : ∃ ni, (fk F j).next.length = ni := ⟨_, rfl⟩
      rw [hti, hni, HMM.out]
      rw [HMM.out] at HI4 HCS
      have t2 := newcell w4 #[.int .i64 ti, .slice An ni cn, .slice As M.length cs] 110 2
      simp only [List.getElem?_toArray, List.getElem?_cons_succ, List.getElem?_cons_zero] at t2
      clear hti hni
      go_wp2_with fail
      go_quiet (fail)
      go_wp2_with fail
      go_ret3
      have HBN : Hid (∀ n, Below w4.heap.size w4 ((w4.alloc (.cells #[.int .i64 ti, .slice An ni cn, .slice As M.length cs] 110)).drewN n)) := fun n => below_drewN ((Below.refl _ _).alloc (Nat.le_refl _) _) n
      refine ⟨Av, cv, As, cs, by rw [HL.out, HM.out, HWE.out]; rfl, ?_, ?_, ?_⟩
      · rw [HL.out]
        obtain ⟨A4, c4, hv4, _, hI⟩ := HO4.out.reads
        injection hv4 with hv4
        subst hv4
        exact (hI.below (HBN.out _) (Nat.le_refl _)).more (by simp)
      · rw [HM.out]
        exact ((HI4.out.more hs4).below (HBN.out _) (Nat.le_refl _)).more (by simp)
      · exact HB5.out.trans ((HBN.out _).mono (by omega))
end Go.Proofs.YtonpemikodajdaaDoor
