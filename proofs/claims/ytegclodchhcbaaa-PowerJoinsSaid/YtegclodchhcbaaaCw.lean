/- Walks: the check of wanted users, the first error, all errors of a case: ours. -/
import Derived.Test.YtegclodchhcbaaaCf
import Derived.Test.YtegclodchhcbaaaCk
namespace Go.Proofs.Ytegclodchhcbaaa
open Go.RowKit

set_option maxRecDepth 100000 in
set_option maxHeartbeats 4000000 in
theorem checkW_any (g : MGrid) (A1 A2 A3 : Option Addr) (c1 c2 c3 : Nat) (Aw : Option Addr) (wc : Nat) (want : List Int) (w : World) (h : GridA w w.heap.size g A1 A2 A3) (hw : IntsA w w.heap.size Aw want) {r : Int} (hr : checkW g want = r) :
    Calls Try.prog 93 #[.agg (gridC g A1 A2 A3 c1 c2 c3), .slice Aw want.length wc] w fun e w' => e = .returned (.int .i64 r) ∧ Below w.heap.size w w' := by
  unfold gridC
  have hl3 := h.us.1
  have hlw := hw.1
  unfold maxLen at hl3 hlw
  obtain ⟨w1, hw1⟩ : ∃ w1, w.alloc (.cells #[.int .i64 g.nodes, .slice A1 g.lines.length c1, .slice A2 g.srcs.length c2, .slice A3 g.users.length c3] 26) = w1 := ⟨_, rfl⟩
  have hb1 : Below w.heap.size w w1 := by rw [← hw1]; exact (Below.refl _ _).alloc (Nat.le_refl _) _
  have hx1 : w1.heap[w.heap.size]? = some (.cells #[.int .i64 g.nodes, .slice A1 g.lines.length c1, .slice A2 g.srcs.length c2, .slice A3 g.users.length c3] 26 (0, 0)) := by rw [← hw1]; exact heap_alloc_new w _
  have p3 := cell_of_row w1 _ 3 _ _ _ hx1
  simp only [List.getElem?_toArray, List.getElem?_cons_succ, List.getElem?_cons_zero] at p3
  have HW := Lib.hid ((hw.below hb1 (Nat.le_refl _)).more hb1.size)
  have HB1 := Lib.hid hb1
  have HR := Lib.hid hr
  clear h hw hb1 hx1 hr
  go_enter Try.func93, Try.ntmps93
  go_wp2_with fail
  go_loopw [10, 5] (fun vi vl wr => ∃ k : Nat, k ≤ want.length ∧ vi = .int .i64 k ∧ vl = .int .i64 (prevW want k) ∧ wr = w1 ∧ Hid (∀ j, j < k → wantB g want j = true)) (fun vi _ _ => want.length - (intOf vi).toNat)
  case atStart => exact ⟨0, Nat.zero_le _, rfl, rfl, rfl, fun j hj => absurd hj (Nat.not_lt_zero _)⟩
  case round =>
    obtain ⟨k, hk, rfl, rfl, rfl, HN⟩ := hrel
    by_cases hlt : k < want.length
    · obtain ⟨b, off, hA, hb, c0⟩ := HW.out.at_ hlt
      subst hA
      have HLT := Lib.hid hlt
      have hpv : prevW want (k + 1) = want.getD k 0 := by unfold prevW; rw [if_neg (Nat.succ_ne_zero k), Nat.add_sub_cancel]
      have HPV := Lib.hid hpv
      have hB : wantB g want k = (decide (prevW want k < want.getD k 0) && decide (want.getD k 0 < g.users.length)) := rfl
      clear hpv
      generalize prevW want k = pv at *
      generalize want.getD k 0 = x at *
      by_cases q1 : pv < x
      · by_cases q2 : x < (g.users.length : Int)
        · have HLB : Hid (wantB g want k = true) := by show _ = _; rw [hB, decide_eq_true q1, decide_eq_true q2]; rfl
          clear hB
          go_wp2_with fail
          go_roundw
          case rel => exact ⟨k + 1, HLT.out, by go_num, by rw [HPV.out], trivial, upto_next HN.out HLB.out⟩
          case measure => simp [intOf]; have := HLT.out; omega
        · have HLB : Hid (wantB g want k = false) := by show _ = _; rw [hB, decide_eq_true q1, decide_eq_false q2]; rfl
          clear hB
          go_wp2_with fail
          go_ret
          exact ⟨ret_i (by rw [← HR.out, checkW_1 HLT.out HLB.out]), HB1.out⟩
      · have HLB : Hid (wantB g want k = false) := by show _ = _; rw [hB, decide_eq_false q1]; rfl
        clear hB
        go_wp2_with fail
        go_ret
        exact ⟨ret_i (by rw [← HR.out, checkW_1 HLT.out HLB.out]), HB1.out⟩
    · obtain rfl : want.length = k := by omega
      have hfin := checkW_0 HN.out
      go_wp2_with fail
      go_ret
      exact ⟨ret_i (by rw [← HR.out, hfin]), HB1.out⟩
set_option maxRecDepth 100000 in
theorem or_any (gb : Nat) (a b : Int) (w : World) (h0 : w.cell? ⟨gb, 0, none⟩ = some (.int .i64 a)) (h1 : w.cell? ⟨gb, 1, none⟩ = some (.int .i64 b)) {r : Int} (hr : (if a = 0 then b else a) = r) :
    Calls Try.prog 104 #[.slice (some ⟨gb, 0, none⟩) 2 2] w fun e w' => e = .returned (.int .i64 r) ∧ w = w' := by
  have HR := Lib.hid hr
  clear hr
  go_enter Try.func104, Try.ntmps104
  go_wp2_with fail
  go_loopw [8] (fun vi wr => ∃ k : Nat, k ≤ 2 ∧ vi = .int .i64 k ∧ wr = w ∧ Hid ((0 < k → a = 0) ∧ (1 < k → b = 0))) (fun vi _ => 2 - (intOf vi).toNat)
  case atStart => exact ⟨0, by omega, rfl, rfl, fun h => absurd h (Nat.lt_irrefl _), fun h => absurd h (by omega)⟩
  case round =>
    obtain ⟨k, hk, rfl, rfl, HN⟩ := hrel
    have h3 : k = 0 ∨ k = 1 ∨ k = 2 := by omega
    rcases h3 with rfl | rfl | rfl
    · by_cases ha : a = 0
      · have ha' : (a != 0) = false := by simpa using ha
        have HA := Lib.hid ha
        clear ha
        go_wp2_with fail
        go_roundw
        case rel => exact ⟨1, by omega, by go_num, trivial, fun _ => HA.out, fun h => absurd h (by omega)⟩
        case measure => simp [intOf]
      · have ha' : (a != 0) = true := by simpa using ha
        have HA := Lib.hid ha
        clear ha
        go_wp2_with fail
        go_ret
        exact ⟨ret_i (by rw [← HR.out, if_neg HA.out]), rfl⟩
    · by_cases hb : b = 0
      · have hb' : (b != 0) = false := by simpa using hb
        have HBB := Lib.hid hb
        clear hb
        go_wp2_with fail
        go_roundw
        case rel => exact ⟨2, by omega, by go_num, trivial, fun _ => HN.out.1 (by omega), fun _ => HBB.out⟩
        case measure => simp [intOf]
      · have hb' : (b != 0) = true := by simpa using hb
        clear hb
        go_wp2_with fail
        go_ret
        exact ⟨ret_i (by rw [← HR.out, if_pos (HN.out.1 (by omega))]), rfl⟩
    · go_wp2_with fail
      go_ret
      exact ⟨ret_i (by rw [← HR.out, if_pos (HN.out.1 (by omega)), HN.out.2 (by omega)]), rfl⟩
set_option maxRecDepth 100000 in
theorem errors_any (gb : Nat) (a b : Int) (w : World) (h0 : w.cell? ⟨gb, 0, none⟩ = some (.int .i64 a)) (h1 : w.cell? ⟨gb, 1, none⟩ = some (.int .i64 b)) {r : Int} (hr : (if a = 0 then b else a) = r) :
    Calls Try.prog 92 #[.slice (some ⟨gb, 0, none⟩) 2 2] w fun e w' => e = .returned (.int .i64 r) ∧ w = w' := by
  have HC := Lib.hid (or_any gb a b w h0 h1 hr)
  clear h0 h1 hr
  go_enter Try.func92, Try.ntmps92
  go_wp2_with (go_at_call 104; refine HC.out.mono ?_; rintro e w2 ⟨rfl, rfl⟩)
  go_ret
  exact ⟨rfl, rfl⟩
set_option maxRecDepth 100000 in
set_option maxHeartbeats 8000000 in
theorem all_any (g : MGrid) (A1 A2 A3 : Option Addr) (c1 c2 c3 : Nat) (A : Option Addr) (cap : Nat) (F : List MFault) (Aw : Option Addr) (wc : Nat) (want : List Int) (w : World) (h : GridA w w.heap.size g A1 A2 A3) (hf : FaultsA w w.heap.size A F) (hcap : F.length ≤ cap) (hw : IntsA w w.heap.size Aw want) {r : Int} (hr : checkA g F want = r) :
    Calls Try.prog 58 #[.agg (gridC g A1 A2 A3 c1 c2 c3), .slice A F.length cap, .slice Aw want.length wc] w fun e w' => e = .returned (.int .i64 r) ∧ Below w.heap.size w w' := by
  obtain ⟨w1, hw1⟩ : ∃ w1, w.alloc (.cells #[.int .i64 g.nodes, .slice A1 g.lines.length c1, .slice A2 g.srcs.length c2, .slice A3 g.users.length c3] 26) = w1 := ⟨_, rfl⟩
  have hb1 : Below w.heap.size w w1 := by rw [← hw1]; exact (Below.refl _ _).alloc (Nat.le_refl _) _
  have hs1 : w1.heap.size = w.heap.size + 1 := by rw [← hw1]; simp
  have hx1 : w1.heap[w.heap.size]? = some (.cells #[.int .i64 g.nodes, .slice A1 g.lines.length c1, .slice A2 g.srcs.length c2, .slice A3 g.users.length c3] 26 (0, 0)) := by rw [← hw1]; exact heap_alloc_new w _
  have HX : Hid (∀ W, Below w1.heap.size w1 W → Below w.heap.size w W ∧ W.cell? ⟨w.heap.size, 0, none⟩ = some (.int .i64 g.nodes) ∧ W.cell? ⟨w.heap.size, 1, none⟩ = some (.slice A1 g.lines.length c1) ∧ W.cell? ⟨w.heap.size, 2, none⟩ = some (.slice A2 g.srcs.length c2) ∧ W.cell? ⟨w.heap.size, 3, none⟩ = some (.slice A3 g.users.length c3)) := fun W hW => by
    have h1 := (hW.block w.heap.size (by omega)).trans hx1
    exact ⟨hb1.trans (hW.mono (by omega)), cell_of_row W _ 0 _ _ _ h1, cell_of_row W _ 1 _ _ _ h1, cell_of_row W _ 2 _ _ _ h1, cell_of_row W _ 3 _ _ _ h1⟩
  have HG : Hid (∀ W, Below w.heap.size w W → GridA W W.heap.size g A1 A2 A3 ∧ FaultsA W W.heap.size A F ∧ IntsA W W.heap.size Aw want) := fun W hW => ⟨(h.keep hW).more hW.size, (hf.keep hW).more hW.size, (hw.below hW (Nat.le_refl _)).more hW.size⟩
  obtain ⟨_, p0, p1, p2, p3⟩ := HX.out w1 (Below.refl _ _)
  have HR := Lib.hid hr
  obtain ⟨G, hG⟩ : ∃ G, checkG g = G := ⟨_, rfl⟩
  have HGE := Lib.hid hG
  have HCK := Lib.hid (fun W hW => check_any g A1 A2 A3 c1 c2 c3 W (HG.out W hW).1 hG)
  unfold gridC at HCK ⊢
  clear h hf hw hr hb1 hx1
  by_cases hz : G = 0
  · subst hz
    obtain ⟨n, hgo⟩ := checkG_ok hG
    have hn : 1 ≤ g.nodes ∧ g.nodes ≤ 20 := by have := hgo.nodes; have := hgo.few; omega
    obtain ⟨E1, hE1⟩ : ∃ E, checkF g F = E := ⟨_, rfl⟩
    obtain ⟨E2, hE2⟩ : ∃ E, checkW g want = E := ⟨_, rfl⟩
    have hre : (if E1 = 0 then E2 else E1) = r := by
      rw [← HR.out]
      unfold checkA checkGF
      rw [if_pos hG, hE1, hE2]
    have HRE := Lib.hid hre
    have HCF := Lib.hid (fun W hW => checkF_any g A1 A2 A3 c1 c2 c3 A cap F W (HG.out W hW).1 (HG.out W hW).2.1 hcap hn hE1)
    have HCW := Lib.hid (fun W hW => checkW_any g A1 A2 A3 c1 c2 c3 Aw wc want W (HG.out W hW).1 (HG.out W hW).2.2 hE2)
    unfold gridC at HCF HCW
    clear hG hE1 hE2 hre hgo hn
    go_enter Try.func58, Try.ntmps58
    go_upto_region 4 with (go_at_call 35; refine (HCK.out _ (HX.out _ (Below.refl _ _)).1).mono ?_; rintro e w2 ⟨rfl, hb2⟩; have HB2 := Lib.hid hb2; clear hb2 p0 p1 p2 p3)
    obtain ⟨_, p0, p1, p2, p3⟩ := HX.out w2 HB2.out
    have HB2D : Below w1.heap.size w1 w2.drew := HB2.out.drew
    go_region_held3 (fun W => W.cell? ⟨w.heap.size, 0, none⟩ = some (.int .i64 g.nodes) ∧ W.cell? ⟨w.heap.size, 1, none⟩ = some (.slice A1 g.lines.length c1) ∧ W.cell? ⟨w.heap.size, 2, none⟩ = some (.slice A2 g.srcs.length c2) ∧ W.cell? ⟨w.heap.size, 3, none⟩ = some (.slice A3 g.users.length c3)) (first | exact (HX.out _ HB2D).2 | exact (HX.out _ HB5).2 | exact (HX.out _ HB6).2 | exact (HX.out _ (HB6.alloc HB6.size _)).2 | fail) ((first
      | (go_at_call 54; (with_reducible refine (HCF.out _ (HX.out _ HB2D).1).mono ?_); rintro e w5 ⟨rfl, hb5⟩; have HB5 : Below w1.heap.size w1 w5 := HB2D.trans (hb5.mono HB2D.size); clear hb5)
      | (go_at_call 93; (with_reducible refine (HCW.out _ (HX.out _ HB5).1).mono ?_); rintro e w6 ⟨rfl, hb6⟩; have HB6 : Below w1.heap.size w1 w6 := HB5.trans (hb6.mono HB5.size); clear hb6)
      | (go_at_call 92; (with_reducible refine (errors_any w6.heap.size E1 E2 _ (newcell w6 _ _ 0) (newcell w6 _ _ 1) HRE.out).mono ?_); rintro e w7 ⟨rfl, rfl⟩)
      | fail))
    go_wp2_with fail
    go_ret
    exact ⟨rfl, (HX.out _ (HB6.alloc HB6.size _)).1⟩
  · have hz' : (G != 0) = true := by simpa using hz
    have hre : G = r := by
      rw [← HR.out]
      unfold checkA checkGF
      rw [hG, if_neg hz, if_neg hz]
    have HRE := Lib.hid hre
    clear hG hre hz
    go_enter Try.func58, Try.ntmps58
    go_wp2_with (go_at_call 35; refine (HCK.out _ (HX.out _ (Below.refl _ _)).1).mono ?_; rintro e w2 ⟨rfl, hb2⟩; have HB2 := Lib.hid hb2; clear hb2)
    go_ret
    exact ⟨ret_i HRE.out, (HX.out _ HB2.out).1⟩
end Go.Proofs.Ytegclodchhcbaaa
