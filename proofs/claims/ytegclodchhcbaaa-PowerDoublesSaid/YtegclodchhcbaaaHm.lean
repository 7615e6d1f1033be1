/- Walks: harm, of both programs. Printed by gen_hm8.py. -/
import Derived.Test.YtegclodchhcbaaaSf
import Derived.Test.YtegclodchhcbaaaCe
import Derived.Test.YtegclodchhcbaaaCc
namespace Go.Proofs.Ytegclodchhcbaaa
open Go.RowKit

/-- a user of a level is harmed -/
noncomputable def harmAt (g : MGrid) (F : List MFault) (level : Int) (i : Nat) : Bool := decide (level ≤ (g.users.getD i dUser).level) && (!lostB F 3 (g.users.getD i dUser).node && !servedB g F i)
noncomputable def harmB (g : MGrid) (F : List MFault) (level : Int) : Bool := (List.range g.users.length).any (harmAt g F level)
theorem harm_yes {g : MGrid} {F : List MFault} {level : Int} {i : Nat} (hi : i < g.users.length) (h : harmAt g F level i = true) : harmB g F level = true := List.any_eq_true.2 ⟨i, List.mem_range.2 hi, h⟩
theorem harm_no {g : MGrid} {F : List MFault} {level : Int} (h : ∀ i, i < g.users.length → harmAt g F level i = false) : harmB g F level = false := by
  unfold harmB
  rw [List.any_eq_false]
  intro i hi
  simp [h i (List.mem_range.1 hi)]
set_option maxRecDepth 100000 in
set_option maxHeartbeats 4000000 in
theorem harm_any (g : MGrid) (A1 A2 A3 : Option Addr) (c1 c2 c3 : Nat) (A : Option Addr) (cap : Nat) (F : List MFault) (level : Int) (w : World) (h : GridA w w.heap.size g A1 A2 A3) (hf : FaultsA w w.heap.size A F) {n : Nat} (hg : GridOk g n) {b : Bool} (hb : harmB g F level = b) :
    Calls Try.prog 81 #[.agg (gridC g A1 A2 A3 c1 c2 c3), .int .i64 level, .slice A F.length cap] w fun e w' => e = .returned (.bool b) ∧ Below w.heap.size w w' := by
  obtain ⟨w1, hw1⟩ : ∃ w1, w.alloc (.cells #[.int .i64 g.nodes, .slice A1 g.lines.length c1, .slice A2 g.srcs.length c2, .slice A3 g.users.length c3] 26) = w1 := ⟨_, rfl⟩
  have hb1 : Below w.heap.size w w1 := by rw [← hw1]; exact (Below.refl _ _).alloc (Nat.le_refl _) _
  have hs1 : w1.heap.size = w.heap.size + 1 := by rw [← hw1]; simp
  have hx1 : w1.heap[w.heap.size]? = some (.cells #[.int .i64 g.nodes, .slice A1 g.lines.length c1, .slice A2 g.srcs.length c2, .slice A3 g.users.length c3] 26 (0, 0)) := by rw [← hw1]; exact heap_alloc_new w _
  have HX : Hid (∀ W, Below w1.heap.size w1 W → Below w.heap.size w W ∧ W.cell? ⟨w.heap.size, 0, none⟩ = some (.int .i64 g.nodes) ∧ W.cell? ⟨w.heap.size, 1, none⟩ = some (.slice A1 g.lines.length c1) ∧ W.cell? ⟨w.heap.size, 2, none⟩ = some (.slice A2 g.srcs.length c2) ∧ W.cell? ⟨w.heap.size, 3, none⟩ = some (.slice A3 g.users.length c3)) := fun W hW => by
    have h1 := (hW.block w.heap.size (by omega)).trans hx1
    exact ⟨hb1.trans (hW.mono (by omega)), cell_of_row W _ 0 _ _ _ h1, cell_of_row W _ 1 _ _ _ h1, cell_of_row W _ 2 _ _ _ h1, cell_of_row W _ 3 _ _ _ h1⟩
  have HG : Hid (∀ W, Below w.heap.size w W → GridA W W.heap.size g A1 A2 A3 ∧ FaultsA W W.heap.size A F ∧ UsersA W w.heap.size A3 g.users) := fun W hW => ⟨(h.keep hW).more hW.size, (hf.keep hW).more hW.size, h.us.below hW (Nat.le_refl _)⟩
  obtain ⟨_, p0, p1, p2, p3⟩ := HX.out w1 (Below.refl _ _)
  have hnu := hg.nu
  have HBB := Lib.hid hb
  have HSV : Hid (∀ W, Below w1.heap.size w1 W → Calls Try.prog 55 #[.agg (gridC g A1 A2 A3 c1 c2 c3), .slice A F.length cap] W fun e w' => ∃ Ab, e = .returned (.slice Ab g.users.length g.users.length) ∧ BoolsA w' w'.heap.size Ab g.users.length (servedB g F) ∧ Below W.heap.size W w') := fun W hW => (served_any g A1 A2 A3 c1 c2 c3 A cap F W (HG.out W (HX.out W hW).1).1 (HG.out W (HX.out W hW).1).2.1 hg).mono fun e w' ⟨v, he, ho, hb⟩ => by
    obtain ⟨Ab, rfl, hba⟩ := ho.reads (by unfold maxLen; omega)
    exact ⟨Ab, he, hba, hb⟩
  have HB0 : Hid (Below w1.heap.size w1 w1) := Below.refl _ _
  unfold gridC at HSV ⊢
  clear h hf hb1 hx1 hg hs1 hb
  go_enter Try.func81, Try.ntmps81
  go_wp2_with (go_at_call 55; refine (HSV.out _ HB0.out).mono ?_; rintro e w2 ⟨Ab, rfl, hba, hb2⟩; have HBA := Lib.hid hba; have HB2 := Lib.hid hb2; clear hba hb2 p0 p1 p2 p3)
  have HC2 : Hid (Below w2.heap.size w2 w2) := Below.refl _ _
  go_loopw [14] (fun vi wr => ∃ k : Nat, k ≤ g.users.length ∧ vi = .int .i64 k ∧ Hid (Below w2.heap.size w2 wr) ∧ Hid (∀ j, j < k → harmAt g F level j = false)) (fun vi _ => g.users.length - (intOf vi).toNat)
  case atStart => exact ⟨0, Nat.zero_le _, rfl, HC2.out, fun j hj => absurd hj (Nat.not_lt_zero _)⟩
  case round =>
    clear HC2
    obtain ⟨k, hk, rfl, HB, HN⟩ := hrel
    rename World => wr
    have HBW : Hid (Below w1.heap.size w1 wr) := HB2.out.trans (HB.out.mono HB2.out.size)
    by_cases hlt : k < g.users.length
    · obtain ⟨hbw, p0, p1, p2, p3⟩ := HX.out wr HBW.out
      obtain ⟨b9, o9, hA9, hb9, x0⟩ := ((HBA.out.later HB.out)).at_ hlt
      subst hA9
      obtain ⟨u, lb, lo, hue, hA, hlb, u0, u1, u2⟩ := (HG.out wr hbw).1.us.at_ hlt
      subst hA
      have HLT := Lib.hid hlt
      have HHA : Hid (harmAt g F level k = (decide (level ≤ u.level) && (!lostB F 3 u.node && !servedB g F k))) := by show _ = _; unfold harmAt; rw [hue]
      obtain ⟨lb2, hlb2⟩ : ∃ lb2, lostB F 3 u.node = lb2 := ⟨_, rfl⟩
      have HLO : Hid (∀ W, Below wr.heap.size wr W → Calls Try.prog 95 #[.slice A F.length cap, .int .i64 3, .int .i64 u.node] W fun e w' => e = .returned (.bool lb2) ∧ Below W.heap.size W w') := fun W hW => lost_any A cap F 3 u.node W (HG.out W (hbw.trans (hW.mono hbw.size))).2.1 hlb2
      rw [hlb2] at HHA
      have HRB : Hid (∀ W, Below wr.heap.size wr W → Below w2.heap.size w2 W ∧ Below w.heap.size w W) := fun W hW => ⟨HB.out.trans (hW.mono HB.out.size), hbw.trans (hW.mono hbw.size)⟩
      have HAL : Hid (Below wr.heap.size wr (wr.alloc (.cells #[.int .i64 u.node, .int .i64 u.power, .int .i64 u.level] 55))) := (Below.refl _ _).alloc (Nat.le_refl _) _
      clear hue hlb2
      generalize servedB g F k = sb at *
      rcases sb with _ | _
      · by_cases hlv : level ≤ u.level
        · rcases lb2 with _ | _
          · have HV : Hid (harmAt g F level k = true) := by show _ = _; rw [HHA.out, decide_eq_true hlv]; rfl
            go_wp2_with (go_at_call 95; refine (HLO.out _ HAL.out).mono ?_; rintro e w6 ⟨rfl, hb6⟩; have HB6 := Lib.hid (bel_next HAL.out hb6); clear hb6)
            go_ret
            exact ⟨ret_b (by rw [← HBB.out, harm_yes HLT.out HV.out]), (HRB.out _ HB6.out).2⟩
          · have HV : Hid (harmAt g F level k = false) := by show _ = _; rw [HHA.out]; simp
            go_wp2_with (go_at_call 95; refine (HLO.out _ HAL.out).mono ?_; rintro e w6 ⟨rfl, hb6⟩; have HB6 := Lib.hid (bel_next HAL.out hb6); clear hb6)
            go_roundw
            case rel => exact ⟨k + 1, HLT.out, by go_num, (HRB.out _ HB6.out).1, upto_next HN.out HV.out⟩
            case measure => simp [intOf]; have := HLT.out; omega
        · have HV : Hid (harmAt g F level k = false) := by show _ = _; rw [HHA.out, decide_eq_false hlv]; rfl
          go_wp2_with fail
          go_roundw
          case rel => exact ⟨k + 1, HLT.out, by go_num, (HRB.out _ HAL.out).1, upto_next HN.out HV.out⟩
          case measure => simp [intOf]; have := HLT.out; omega
      · have HV : Hid (harmAt g F level k = false) := by show _ = _; rw [HHA.out]; simp
        go_wp2_with fail
        go_roundw
        case rel => exact ⟨k + 1, HLT.out, by go_num, (HRB.out _ HAL.out).1, upto_next HN.out HV.out⟩
        case measure => simp [intOf]; have := HLT.out; omega
    · obtain rfl : k = g.users.length := by omega
      have HV : Hid (harmB g F level = false) := harm_no HN.out
      go_wp2_with fail
      go_ret
      exact ⟨ret_b (by rw [← HBB.out, HV.out]), (HX.out _ HBW.out).1⟩
set_option maxRecDepth 100000 in
set_option maxHeartbeats 4000000 in
theorem rharm_any (g : MGrid) (A1 A2 A3 : Option Addr) (c1 c2 c3 : Nat) (A : Option Addr) (cap : Nat) (F : List MFault) (level : Int) (w : World) (h : GridA w w.heap.size g A1 A2 A3) (hf : FaultsA w w.heap.size A F) {n : Nat} (hg : GridOk g n) {b : Bool} (hb : harmB g F level = b) :
    Calls Try.prog 84 #[.agg (gridC g A1 A2 A3 c1 c2 c3), .slice A F.length cap, .int .i64 level] w fun e w' => e = .returned (.bool b) ∧ Below w.heap.size w w' := by
  obtain ⟨w1, hw1⟩ : ∃ w1, w.alloc (.cells #[.int .i64 g.nodes, .slice A1 g.lines.length c1, .slice A2 g.srcs.length c2, .slice A3 g.users.length c3] 26) = w1 := ⟨_, rfl⟩
  have hb1 : Below w.heap.size w w1 := by rw [← hw1]; exact (Below.refl _ _).alloc (Nat.le_refl _) _
  have hs1 : w1.heap.size = w.heap.size + 1 := by rw [← hw1]; simp
  have hx1 : w1.heap[w.heap.size]? = some (.cells #[.int .i64 g.nodes, .slice A1 g.lines.length c1, .slice A2 g.srcs.length c2, .slice A3 g.users.length c3] 26 (0, 0)) := by rw [← hw1]; exact heap_alloc_new w _
  have HX : Hid (∀ W, Below w1.heap.size w1 W → Below w.heap.size w W ∧ W.cell? ⟨w.heap.size, 0, none⟩ = some (.int .i64 g.nodes) ∧ W.cell? ⟨w.heap.size, 1, none⟩ = some (.slice A1 g.lines.length c1) ∧ W.cell? ⟨w.heap.size, 2, none⟩ = some (.slice A2 g.srcs.length c2) ∧ W.cell? ⟨w.heap.size, 3, none⟩ = some (.slice A3 g.users.length c3)) := fun W hW => by
    have h1 := (hW.block w.heap.size (by omega)).trans hx1
    exact ⟨hb1.trans (hW.mono (by omega)), cell_of_row W _ 0 _ _ _ h1, cell_of_row W _ 1 _ _ _ h1, cell_of_row W _ 2 _ _ _ h1, cell_of_row W _ 3 _ _ _ h1⟩
  have HG : Hid (∀ W, Below w.heap.size w W → GridA W W.heap.size g A1 A2 A3 ∧ FaultsA W W.heap.size A F ∧ UsersA W w.heap.size A3 g.users) := fun W hW => ⟨(h.keep hW).more hW.size, (hf.keep hW).more hW.size, h.us.below hW (Nat.le_refl _)⟩
  obtain ⟨_, p0, p1, p2, p3⟩ := HX.out w1 (Below.refl _ _)
  have hnu := hg.nu
  have HBB := Lib.hid hb
  have HSV : Hid (∀ W, Below w1.heap.size w1 W → Calls Try.prog 57 #[.agg (gridC g A1 A2 A3 c1 c2 c3), .slice A F.length cap] W fun e w' => ∃ Ab, e = .returned (.slice Ab g.users.length g.users.length) ∧ BoolsA w' w'.heap.size Ab g.users.length (servedB g F) ∧ Below W.heap.size W w') := fun W hW => (rserved_any g A1 A2 A3 c1 c2 c3 A cap F W (HG.out W (HX.out W hW).1).1 (HG.out W (HX.out W hW).1).2.1 hg).mono fun e w' ⟨v, he, ho, hb⟩ => by
    obtain ⟨Ab, rfl, hba⟩ := ho.reads (by unfold maxLen; omega)
    exact ⟨Ab, he, hba, hb⟩
  have HB0 : Hid (Below w1.heap.size w1 w1) := Below.refl _ _
  unfold gridC at HSV ⊢
  clear h hf hb1 hx1 hg hs1 hb
  go_enter Try.func84, Try.ntmps84
  go_wp2_with (go_at_call 57; refine (HSV.out _ HB0.out).mono ?_; rintro e w2 ⟨Ab, rfl, hba, hb2⟩; have HBA := Lib.hid hba; have HB2 := Lib.hid hb2; clear hba hb2 p0 p1 p2 p3)
  have HC2 : Hid (Below w2.heap.size w2 w2) := Below.refl _ _
  go_loopw [8] (fun vi wr => ∃ k : Nat, k ≤ g.users.length ∧ vi = .int .i64 k ∧ Hid (Below w2.heap.size w2 wr) ∧ Hid (∀ j, j < k → harmAt g F level j = false)) (fun vi _ => g.users.length - (intOf vi).toNat)
  case atStart => exact ⟨0, Nat.zero_le _, rfl, HC2.out, fun j hj => absurd hj (Nat.not_lt_zero _)⟩
  case round =>
    clear HC2
    obtain ⟨k, hk, rfl, HB, HN⟩ := hrel
    rename World => wr
    have HBW : Hid (Below w1.heap.size w1 wr) := HB2.out.trans (HB.out.mono HB2.out.size)
    by_cases hlt : k < g.users.length
    · obtain ⟨hbw, p0, p1, p2, p3⟩ := HX.out wr HBW.out
      obtain ⟨b9, o9, hA9, hb9, x0⟩ := ((HBA.out.later HB.out)).at_ hlt
      subst hA9
      obtain ⟨u, lb, lo, hue, hA, hlb, u0, u1, u2⟩ := (HG.out wr hbw).1.us.at_ hlt
      subst hA
      have HLT := Lib.hid hlt
      have HHA : Hid (harmAt g F level k = (decide (level ≤ u.level) && (!lostB F 3 u.node && !servedB g F k))) := by show _ = _; unfold harmAt; rw [hue]
      obtain ⟨lb2, hlb2⟩ : ∃ lb2, lostB F 3 u.node = lb2 := ⟨_, rfl⟩
      have HLO := Lib.hid (rgone_any A cap F u.node wr (HG.out wr hbw).2.1 hlb2)
      rw [hlb2] at HHA
      have HRB : Hid (Below w2.heap.size w2 wr ∧ Below w.heap.size w wr) := ⟨HB.out, hbw⟩
      clear hue hlb2
      generalize servedB g F k = sb at *
      by_cases hlv : level ≤ u.level
      · rcases lb2 with _ | _
        · rcases sb with _ | _
          · have HV : Hid (harmAt g F level k = true) := by show _ = _; rw [HHA.out, decide_eq_true hlv]; rfl
            go_wp2_with (go_at_call 97; refine HLO.out.mono ?_; rintro e w6 ⟨rfl, rfl⟩)
            go_ret
            exact ⟨ret_b (by rw [← HBB.out, harm_yes HLT.out HV.out]), HRB.out.2⟩
          · have HV : Hid (harmAt g F level k = false) := by show _ = _; rw [HHA.out]; simp
            go_wp2_with (go_at_call 97; refine HLO.out.mono ?_; rintro e w6 ⟨rfl, rfl⟩)
            go_roundw
            case rel => exact ⟨k + 1, HLT.out, by go_num, HRB.out.1, upto_next HN.out HV.out⟩
            case measure => simp [intOf]; have := HLT.out; omega
        · have HV : Hid (harmAt g F level k = false) := by show _ = _; rw [HHA.out]; simp
          go_wp2_with (go_at_call 97; refine HLO.out.mono ?_; rintro e w6 ⟨rfl, rfl⟩)
          go_roundw
          case rel => exact ⟨k + 1, HLT.out, by go_num, HRB.out.1, upto_next HN.out HV.out⟩
          case measure => simp [intOf]; have := HLT.out; omega
      · have HV : Hid (harmAt g F level k = false) := by show _ = _; rw [HHA.out, decide_eq_false hlv]; rfl
        go_wp2_with fail
        go_roundw
        case rel => exact ⟨k + 1, HLT.out, by go_num, HRB.out.1, upto_next HN.out HV.out⟩
        case measure => simp [intOf]; have := HLT.out; omega
    · obtain rfl : k = g.users.length := by omega
      have HV : Hid (harmB g F level = false) := harm_no HN.out
      go_wp2_with fail
      go_ret
      exact ⟨ret_b (by rw [← HBB.out, HV.out]), (HX.out _ HBW.out).1⟩
end Go.Proofs.Ytegclodchhcbaaa
