/- Walk: the law DiagnoseGroups. -/
import Derived.Test.YtonpemikodajdaaDoorGr13
import Derived.Test.YtonpemikodajdaaDoorGx
import Derived.Test.YtonpemikodajdaaDoorGb
import Derived.Test.YtonpemikodajdaaDoorCs
import Derived.Test.YtonpemikodajdaaDoorWk
namespace Go.Proofs.YtonpemikodajdaaDoor
open Go.RowKit

set_option maxRecDepth 100000 in
set_option maxHeartbeats 8000000 in
theorem lawGroups_any (A1 A2 : Option Addr) (c1 c2 : Nat) (c : MCase) (w : World) (h : CaseA w w.heap.size A1 A2 c) (hT : TabW w) :
    Calls Tryd.prog 7 #[.agg #[.slice A1 c.weights.length c1, .slice A2 c.tests.length c2]] w fun e w' => e = .returned (.bool true) ∧ Below w.heap.size w w' := by
  have hb1 : Below w.heap.size w (w.alloc (.cells #[.slice A1 c.weights.length c1, .slice A2 c.tests.length c2] 36)) := (Below.refl _ _).alloc (Nat.le_refl _) _
  have hsz : (w.alloc (.cells #[.slice A1 c.weights.length c1, .slice A2 c.tests.length c2] 36)).heap.size = w.heap.size + 1 := by simp
  have n0 := newcell w #[.slice A1 c.weights.length c1, .slice A2 c.tests.length c2] 36 0
  have n1 := newcell w #[.slice A1 c.weights.length c1, .slice A2 c.tests.length c2] 36 1
  simp only [List.getElem?_toArray, List.getElem?_cons_succ, List.getElem?_cons_zero] at n0 n1
  have HC : Hid (∀ wx, Below (w.heap.size + 1) (w.alloc (.cells #[.slice A1 c.weights.length c1, .slice A2 c.tests.length c2] 36)) wx → CaseA wx wx.heap.size A1 A2 c ∧ TabW wx) := fun wx hb => ⟨(h.keep (hb1.trans (hb.mono (by omega)))).more (by have := hb.size; omega), hT.keep (hb1.trans (hb.mono (by omega)))⟩
  have HN : Hid (∀ wx, Below (w.heap.size + 1) (w.alloc (.cells #[.slice A1 c.weights.length c1, .slice A2 c.tests.length c2] 36)) wx → wx.cell? ⟨w.heap.size, 0, none⟩ = some (.slice A1 c.weights.length c1) ∧ wx.cell? ⟨w.heap.size, 1, none⟩ = some (.slice A2 c.tests.length c2)) := fun wx hb => ⟨(bcell hb _ _ (by omega)).trans n0, (bcell hb _ _ (by omega)).trans n1⟩
  obtain ⟨E, hE⟩ : ∃ E, checkC c = E := ⟨_, rfl⟩
  obtain ⟨GG, hGG⟩ : ∃ GG, (if caseB c = true then (groupsS c (-1) c.weights.length).map bitsI else []) = GG := ⟨_, rfl⟩
  obtain ⟨UU, hUU⟩ : ∃ UU, (if caseB c = true then uselessTo c c.tests.length else []) = UU := ⟨_, rfl⟩
  have hgl : GG.length ≤ 1000000 := by
    rw [← hGG]
    split
    · rename_i hv
      rw [List.length_map]
      have := groupsS_len c (-1) c.weights.length
      have := (caseOk hv).n2
      omega
    · exact Nat.zero_le _
  have H27 : Hid (∀ s : BW (w.heap.size + 1) (w.alloc (.cells #[.slice A1 c.weights.length c1, .slice A2 c.tests.length c2] 36)), Calls Tryd.prog 27 #[.agg #[.slice A1 c.weights.length c1, .slice A2 c.tests.length c2]] s.1 fun e w' => e = .returned (.int .i64 E) ∧ Below s.1.heap.size s.1 w') := fun s => check_any A1 A2 c1 c2 c s.1 (HC.out s.1 s.2).1 hE
  have H28 : Hid (∀ s : BW (w.heap.size + 1) (w.alloc (.cells #[.slice A1 c.weights.length c1, .slice A2 c.tests.length c2] 36)), Calls Tryd.prog 28 #[.agg #[.slice A1 c.weights.length c1, .slice A2 c.tests.length c2]] s.1 fun e w' => e = .returned (.int .i64 E) ∧ Below s.1.heap.size s.1 w') := fun s => rccheck_any A1 A2 c1 c2 c s.1 (HC.out s.1 s.2).1 hE
  have H25 : Hid (∀ wx, Below (w.heap.size + 1) (w.alloc (.cells #[.slice A1 c.weights.length c1, .slice A2 c.tests.length c2] 36)) wx → Calls Tryd.prog 25 #[.agg #[.slice A1 c.weights.length c1, .slice A2 c.tests.length c2]] wx fun e w' => (∃ v, e = .returned (.tuple #[v, .int .i64 E]) ∧ OutRR w' wx.heap.size v GG) ∧ Below wx.heap.size wx w') := fun wx hb => by
    have h9 := groups25_any A1 A2 c1 c2 c wx (HC.out wx hb).1 (HC.out wx hb).2
    rw [hE, hGG] at h9
    exact h9
  have H29 : Hid (∀ wx, Below (w.heap.size + 1) (w.alloc (.cells #[.slice A1 c.weights.length c1, .slice A2 c.tests.length c2] 36)) wx → Calls Tryd.prog 29 #[.agg #[.slice A1 c.weights.length c1, .slice A2 c.tests.length c2]] wx fun e w' => (∃ v, e = .returned (.tuple #[v, .int .i64 E]) ∧ OutRR w' wx.heap.size v GG) ∧ Below wx.heap.size wx w') := fun wx hb => by
    have h9 := rGroups_any A1 A2 c1 c2 c wx (HC.out wx hb).1
    rw [hE, hGG] at h9
    exact h9
  have H30 : Hid (∀ wx, Below (w.heap.size + 1) (w.alloc (.cells #[.slice A1 c.weights.length c1, .slice A2 c.tests.length c2] 36)) wx → Calls Tryd.prog 30 #[.agg #[.slice A1 c.weights.length c1, .slice A2 c.tests.length c2]] wx fun e w' => (∃ v, e = .returned (.tuple #[v, .int .i64 E]) ∧ OutI w' wx.heap.size v UU) ∧ Below wx.heap.size wx w') := fun wx hb => by
    have h9 := useless_any A1 A2 c1 c2 c wx (HC.out wx hb).1 (HC.out wx hb).2
    rw [hE, hUU] at h9
    exact h9
  have H31 : Hid (∀ wx, Below (w.heap.size + 1) (w.alloc (.cells #[.slice A1 c.weights.length c1, .slice A2 c.tests.length c2] 36)) wx → Calls Tryd.prog 31 #[.agg #[.slice A1 c.weights.length c1, .slice A2 c.tests.length c2]] wx fun e w' => (∃ v, e = .returned (.tuple #[v, .int .i64 E]) ∧ OutI w' wx.heap.size v UU) ∧ Below wx.heap.size wx w') := fun wx hb => by
    have h9 := ruseless_any A1 A2 c1 c2 c wx (HC.out wx hb).1
    rw [hE, hUU] at h9
    exact h9
  have HW : Hid (∀ wx, Below (w.heap.size + 1) (w.alloc (.cells #[.slice A1 c.weights.length c1, .slice A2 c.tests.length c2] 36)) wx → Calls Tryd.prog 18 #[] wx fun e w' => e = .returned (.bool true) ∧ Below wx.heap.size wx w') := fun wx hb => works_any wx (HC.out wx hb).2
  clear hE hGG hUU hT
  have q0 := BW.cell (B := w.heap.size + 1) (W := w.alloc (.cells #[.slice A1 c.weights.length c1, .slice A2 c.tests.length c2] 36)) (show w.heap.size < w.heap.size + 1 by omega) n0
  have q1 := BW.cell (B := w.heap.size + 1) (W := w.alloc (.cells #[.slice A1 c.weights.length c1, .slice A2 c.tests.length c2] 36)) (show w.heap.size < w.heap.size + 1 by omega) n1
  clear n0 n1
  go_enter Tryd.func7, Tryd.ntmps7
  go_wp2_with fail
  refine wp_region_below (w.heap.size + 1) _ (Below.refl _ _) (by kernel_rfl) (by kernel_rfl) ?_
  repeat (go_big_quiet_step (first | (go_at_call 27; exact quiet_below (by simp) (H27.out _)) | (go_at_call 28; exact quiet_below (by simp) (H28.out _))))
  refine wpQuiet_nil ?_
  intro s'
  have HB0 := Lib.hid s'.2
  generalize s'.1 = w0 at *
  clear q0 q1
  obtain ⟨p0, p1⟩ := HN.out w0 HB0.out
  go_wp2_with (first | (go_at_call 25; refine (H25.out _ HB0.out).mono ?_; rintro e w2 ⟨⟨v2, rfl, hO2⟩, hb2⟩; have HO2 := Lib.hid hO2; obtain ⟨Aa, ca, hva, _⟩ := HO2.out.lenV; subst hva; have HB2 : Hid (Below (w.heap.size + 1) (w.alloc (.cells #[.slice A1 c.weights.length c1, .slice A2 c.tests.length c2] 36)) w2) := HB0.out.trans (hb2.mono (by have := HB0.out.size; omega)); obtain ⟨r0, r1⟩ := HN.out w2 HB2.out; clear hO2 hb2) | (go_at_call 29; refine (H29.out _ HB2.out).mono ?_; rintro e w3 ⟨⟨v3, rfl, hO3⟩, hb3⟩; have HO3 := Lib.hid hO3; obtain ⟨Ab, cb, hvb, _⟩ := HO3.out.lenV; subst hvb; have HB3 : Hid (Below (w.heap.size + 1) (w.alloc (.cells #[.slice A1 c.weights.length c1, .slice A2 c.tests.length c2] 36)) w3) := HB2.out.trans (hb3.mono (by have := HB2.out.size; omega)); have HO23 : Hid (OutRR w3 _ _ GG) := HO2.out.keep (fun g _ hg => hb3.block g hg); clear hO3 hb3))
  clear p0 p1 r0 r1
  have hgm : GG.length ≤ maxLen := by unfold maxLen; omega
  go_loopw [7] (fun vi wr => ∃ k : Nat, k ≤ GG.length ∧ vi = .int .i64 k ∧ Hid (Below w3.heap.size w3 wr)) (fun vi _ => GG.length - (intOf vi).toNat)
  case atStart => exact ⟨0, Nat.zero_le _, rfl, Below.refl _ _⟩
  case round =>
    obtain ⟨k, hk, rfl, HB⟩ := hrel
    have hs3 := HB.out.size
    by_cases hlt : k < GG.length
    · obtain ⟨row, b, off, Ap, cp, ht, hA, hbl, t0, _, hI⟩ := ((HO23.out.keep fun g _ hg => HB.out.block g hg : OutRR wr _ _ GG).rows hgm).at_ hlt
      obtain ⟨row', b', off', Ap', cp', ht', hA', hbl', t0', _, hI'⟩ := ((HO3.out.keep fun g _ hg => HB.out.block g hg : OutRR wr _ _ GG).rows hgm).at_ hlt
      rw [ht] at ht'
      injection ht' with ht'
      subst ht'
      subst hA
      subst hA'
      have q2 := BW.cell (B := wr.heap.size) hbl t0
      have q3 := BW.cell (B := wr.heap.size) hbl' t0'
      have H24 : Hid (∀ s : BW wr.heap.size wr, Calls Tryd.prog 24 #[.slice Ap row.length cp, .slice Ap' row.length cp'] s.1 fun e w' => e = .returned (.bool true) ∧ Below s.1.heap.size s.1 w') := fun s => same_ints Ap Ap' cp cp' row row s.1 ((hI.keep s.2).more s.2.size) ((hI'.keep s.2).more s.2.size) (decide_eq_true rfl)
      have hrl := hI.1
      unfold maxLen at hrl
      clear ht t0 t0' hI hI'
      go_wp2_with fail
      refine wp_region_below wr.heap.size wr (Below.refl _ _) (by kernel_rfl) (by kernel_rfl) ?_
      repeat (go_big_quiet_step ((go_at_call 24; exact quiet_below (Nat.le_refl _) (H24.out _))))
      refine wpQuiet_nil ?_
      intro s''
      have HB5 := Lib.hid s''.2
      generalize s''.1 = w5 at *
      clear q2 q3 H24
      go_wp2_with fail
      go_roundw
      case rel => exact ⟨k + 1, by omega, by go_num, HB.out.trans (HB5.out.mono hs3)⟩
      case measure => simp [intOf]; omega
    · obtain rfl : k = GG.length := by omega
      have HB4 : Hid (Below (w.heap.size + 1) (w.alloc (.cells #[.slice A1 c.weights.length c1, .slice A2 c.tests.length c2] 36)) wr) := HB3.out.trans (HB.out.mono (by have := HB3.out.size; rw [hsz] at this; exact this))
      obtain ⟨p0, p1⟩ := HN.out wr HB4.out
      go_wp2_with (first | (go_at_call 30; refine (H30.out _ HB4.out).mono ?_; rintro e w5 ⟨⟨v5, rfl, hO5⟩, hb5⟩; have HO5 := Lib.hid hO5; obtain ⟨Ac, cc, hvc, _, hI5⟩ := HO5.out.reads; subst hvc; have HI5 := Lib.hid hI5; have HB5 : Hid (Below (w.heap.size + 1) (w.alloc (.cells #[.slice A1 c.weights.length c1, .slice A2 c.tests.length c2] 36)) w5) := HB4.out.trans (hb5.mono (by have := HB4.out.size; omega)); obtain ⟨r0, r1⟩ := HN.out w5 HB5.out; clear hO5 hb5 hI5) | (go_at_call 31; refine (H31.out _ HB5.out).mono ?_; rintro e w6 ⟨⟨v6, rfl, hO6⟩, hb6⟩; obtain ⟨Ad, cd, hvd, _, hI6⟩ := hO6.reads; subst hvd; have HI6 := Lib.hid hI6; have HI56 := Lib.hid ((HI5.out.keep hb6).more hb6.size); have HB6 : Hid (Below (w.heap.size + 1) (w.alloc (.cells #[.slice A1 c.weights.length c1, .slice A2 c.tests.length c2] 36)) w6) := HB5.out.trans (hb6.mono (by have := HB5.out.size; omega)); clear hO6 hb6 hI6) | (go_at_call 24; refine (same_ints _ _ _ _ _ _ _ HI56.out HI6.out (decide_eq_true rfl)).mono ?_; rintro e w7 ⟨rfl, hb7⟩; have HB7 : Hid (Below (w.heap.size + 1) (w.alloc (.cells #[.slice A1 c.weights.length c1, .slice A2 c.tests.length c2] 36)) w7) := HB6.out.trans (hb7.mono (by have := HB6.out.size; omega)); clear hb7) | (go_at_call 18; refine (HW.out _ HB7.out).mono ?_; rintro e w8 ⟨rfl, hb8⟩))
      go_ret
      exact ⟨rfl, (hb1.trans (HB7.out.mono (by omega))).trans (hb8.mono (by have := HB7.out.size; omega))⟩
end Go.Proofs.YtonpemikodajdaaDoor
