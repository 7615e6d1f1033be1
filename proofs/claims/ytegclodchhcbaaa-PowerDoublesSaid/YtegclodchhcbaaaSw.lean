/- Walk: small. -/
import Derived.Test.YtegclodchhcbaaaRck
import Derived.Test.YtegclodchhcbaaaLa
import Derived.Test.YtegclodchhcbaaaCc
namespace Go.Proofs.Ytegclodchhcbaaa
open Go.RowKit

/-- what Singles and Doubles are asked of -/
def smallB (g : MGrid) : Bool := !farB g && (!decide (checkG g = 0) || (decide (g.nodes ≤ 8) && (decide (g.lines.length ≤ 10) && decide (g.users.length ≤ 6))))
set_option maxRecDepth 100000 in
set_option maxHeartbeats 4000000 in
theorem small_any (g : MGrid) (A1 A2 A3 : Option Addr) (c1 c2 c3 : Nat) (w : World) (h : GridA w w.heap.size g A1 A2 A3) :
    Calls Try.prog 47 #[.agg (gridC g A1 A2 A3 c1 c2 c3)] w fun e w' => e = .returned (.bool (smallB g)) ∧ Below w.heap.size w w' := by
  obtain ⟨w1, hw1⟩ : ∃ w1, w.alloc (.cells #[.int .i64 g.nodes, .slice A1 g.lines.length c1, .slice A2 g.srcs.length c2, .slice A3 g.users.length c3] 26) = w1 := ⟨_, rfl⟩
  have hb1 : Below w.heap.size w w1 := by rw [← hw1]; exact (Below.refl _ _).alloc (Nat.le_refl _) _
  have hs1 : w1.heap.size = w.heap.size + 1 := by rw [← hw1]; simp
  have hx1 : w1.heap[w.heap.size]? = some (.cells #[.int .i64 g.nodes, .slice A1 g.lines.length c1, .slice A2 g.srcs.length c2, .slice A3 g.users.length c3] 26 (0, 0)) := by rw [← hw1]; exact heap_alloc_new w _
  have HX : Hid (∀ W, Below w1.heap.size w1 W → Below w.heap.size w W ∧ W.cell? ⟨w.heap.size, 0, none⟩ = some (.int .i64 g.nodes) ∧ W.cell? ⟨w.heap.size, 1, none⟩ = some (.slice A1 g.lines.length c1) ∧ W.cell? ⟨w.heap.size, 2, none⟩ = some (.slice A2 g.srcs.length c2) ∧ W.cell? ⟨w.heap.size, 3, none⟩ = some (.slice A3 g.users.length c3)) := fun W hW => by
    have h1 := (hW.block w.heap.size (by omega)).trans hx1
    exact ⟨hb1.trans (hW.mono (by omega)), cell_of_row W _ 0 _ _ _ h1, cell_of_row W _ 1 _ _ _ h1, cell_of_row W _ 2 _ _ _ h1, cell_of_row W _ 3 _ _ _ h1⟩
  have HG : Hid (∀ W, Below w1.heap.size w1 W → GridA W W.heap.size g A1 A2 A3) := fun W hW => (h.keep (HX.out W hW).1).more (HX.out W hW).1.size
  obtain ⟨_, p0, p1, p2, p3⟩ := HX.out w1 (Below.refl _ _)
  obtain ⟨fb, hfb⟩ : ∃ fb, farB g = fb := ⟨_, rfl⟩
  obtain ⟨E, hE⟩ : ∃ E, checkG g = E := ⟨_, rfl⟩
  have HFR : Hid (∀ W, Below w1.heap.size w1 W → Calls Try.prog 38 #[.agg (gridC g A1 A2 A3 c1 c2 c3)] W fun e w' => e = .returned (.bool fb) ∧ Below W.heap.size W w') := fun W hW => far_any g A1 A2 A3 c1 c2 c3 W (HG.out W hW) hfb
  have HCK : Hid (∀ W, Below w1.heap.size w1 W → Calls Try.prog 36 #[.agg (gridC g A1 A2 A3 c1 c2 c3)] W fun e w' => e = .returned (.int .i64 E) ∧ Below W.heap.size W w') := fun W hW => rcheck_any g A1 A2 A3 c1 c2 c3 W (HG.out W hW) hE
  have HV : Hid (smallB g = (!fb && (!decide (E = 0) || (decide (g.nodes ≤ 8) && (decide (g.lines.length ≤ 10) && decide (g.users.length ≤ 6)))))) := by show _ = _; unfold smallB; rw [hfb, hE]
  have hl := h.ls.1
  have hu := h.us.1
  unfold maxLen at hl hu
  unfold gridC at HFR HCK ⊢
  clear hb1 hs1 hx1 hfb hE h
  have FIN : ∀ (b : Bool), smallB g = b → Ending.returned (Value.bool b) = .returned (.bool (smallB g)) := fun b hb => by rw [hb]
  cases fb
  · by_cases hz : E = 0
    · subst hz
      by_cases k1 : g.nodes ≤ 8
      · by_cases k2 : g.lines.length ≤ 10
        · by_cases k3 : g.users.length ≤ 6
          · have HV2 : Hid (smallB g = true) := by show _ = _; rw [HV.out]; simp [k1, k2, k3]
            go_enter Try.func47, Try.ntmps47
            go_wp2_with (first | (go_at_call 38; refine (HFR.out _ (Below.refl _ _)).mono ?_; rintro e w2 ⟨rfl, hb2⟩; have HB2 : Below w1.heap.size w1 w2 := hb2; clear hb2 p0 p1 p2 p3; obtain ⟨_, p0, p1, p2, p3⟩ := HX.out w2 HB2) | (go_at_call 36; refine (HCK.out _ HB2).mono ?_; rintro e w3 ⟨rfl, hb3⟩; have HB3 : Below w1.heap.size w1 w3 := bel_next HB2 hb3; clear hb3 p0 p1 p2 p3; obtain ⟨_, p0, p1, p2, p3⟩ := HX.out w3 HB3))
            go_ret
            exact ⟨FIN _ (by rw [HV2.out]; symm; simp; omega), (HX.out _ HB3).1⟩
          · have HV2 : Hid (smallB g = false) := by show _ = _; rw [HV.out]; simp [k1, k2, k3]
            go_enter Try.func47, Try.ntmps47
            go_wp2_with (first | (go_at_call 38; refine (HFR.out _ (Below.refl _ _)).mono ?_; rintro e w2 ⟨rfl, hb2⟩; have HB2 : Below w1.heap.size w1 w2 := hb2; clear hb2 p0 p1 p2 p3; obtain ⟨_, p0, p1, p2, p3⟩ := HX.out w2 HB2) | (go_at_call 36; refine (HCK.out _ HB2).mono ?_; rintro e w3 ⟨rfl, hb3⟩; have HB3 : Below w1.heap.size w1 w3 := bel_next HB2 hb3; clear hb3 p0 p1 p2 p3; obtain ⟨_, p0, p1, p2, p3⟩ := HX.out w3 HB3))
            go_ret
            exact ⟨FIN _ (by rw [HV2.out]; symm; simp; omega), (HX.out _ HB3).1⟩
        · have HV2 : Hid (smallB g = false) := by show _ = _; rw [HV.out]; simp [k1, k2]
          go_enter Try.func47, Try.ntmps47
          go_wp2_with (first | (go_at_call 38; refine (HFR.out _ (Below.refl _ _)).mono ?_; rintro e w2 ⟨rfl, hb2⟩; have HB2 : Below w1.heap.size w1 w2 := hb2; clear hb2 p0 p1 p2 p3; obtain ⟨_, p0, p1, p2, p3⟩ := HX.out w2 HB2) | (go_at_call 36; refine (HCK.out _ HB2).mono ?_; rintro e w3 ⟨rfl, hb3⟩; have HB3 : Below w1.heap.size w1 w3 := bel_next HB2 hb3; clear hb3 p0 p1 p2 p3; obtain ⟨_, p0, p1, p2, p3⟩ := HX.out w3 HB3))
          go_ret
          exact ⟨FIN _ HV2.out, (HX.out _ HB3).1⟩
      · have HV2 : Hid (smallB g = false) := by show _ = _; rw [HV.out]; simp [k1]
        go_enter Try.func47, Try.ntmps47
        go_wp2_with (first | (go_at_call 38; refine (HFR.out _ (Below.refl _ _)).mono ?_; rintro e w2 ⟨rfl, hb2⟩; have HB2 : Below w1.heap.size w1 w2 := hb2; clear hb2 p0 p1 p2 p3; obtain ⟨_, p0, p1, p2, p3⟩ := HX.out w2 HB2) | (go_at_call 36; refine (HCK.out _ HB2).mono ?_; rintro e w3 ⟨rfl, hb3⟩; have HB3 : Below w1.heap.size w1 w3 := bel_next HB2 hb3; clear hb3 p0 p1 p2 p3; obtain ⟨_, p0, p1, p2, p3⟩ := HX.out w3 HB3))
        go_ret
        exact ⟨FIN _ HV2.out, (HX.out _ HB3).1⟩
    · have HV2 : Hid (smallB g = true) := by show _ = _; rw [HV.out]; simp [hz]
      have hz' : (E != 0) = true := by simpa using hz
      clear hz
      go_enter Try.func47, Try.ntmps47
      go_wp2_with (first | (go_at_call 38; refine (HFR.out _ (Below.refl _ _)).mono ?_; rintro e w2 ⟨rfl, hb2⟩; have HB2 : Below w1.heap.size w1 w2 := hb2; clear hb2 p0 p1 p2 p3; obtain ⟨_, p0, p1, p2, p3⟩ := HX.out w2 HB2) | (go_at_call 36; refine (HCK.out _ HB2).mono ?_; rintro e w3 ⟨rfl, hb3⟩; have HB3 : Below w1.heap.size w1 w3 := bel_next HB2 hb3; clear hb3 p0 p1 p2 p3; obtain ⟨_, p0, p1, p2, p3⟩ := HX.out w3 HB3))
      go_ret
      exact ⟨FIN _ HV2.out, (HX.out _ HB3).1⟩
  · have HV2 : Hid (smallB g = false) := by show _ = _; rw [HV.out]; simp
    go_enter Try.func47, Try.ntmps47
    go_wp2_with (first | (go_at_call 38; refine (HFR.out _ (Below.refl _ _)).mono ?_; rintro e w2 ⟨rfl, hb2⟩; have HB2 : Below w1.heap.size w1 w2 := hb2; clear hb2 p0 p1 p2 p3; obtain ⟨_, p0, p1, p2, p3⟩ := HX.out w2 HB2) | (go_at_call 36; refine (HCK.out _ HB2).mono ?_; rintro e w3 ⟨rfl, hb3⟩; have HB3 : Below w1.heap.size w1 w3 := bel_next HB2 hb3; clear hb3 p0 p1 p2 p3; obtain ⟨_, p0, p1, p2, p3⟩ := HX.out w3 HB3))
    go_ret
    exact ⟨FIN _ HV2.out, (HX.out _ HB2).1⟩
end Go.Proofs.Ytegclodchhcbaaa
