/- Law: Served. Printed by gen_law8.py. -/
import Derived.Test.YtegclodchhcbaaaCd
import Derived.Test.YtegclodchhcbaaaCe
import Derived.Deep.RegionHeld3
namespace Go.Proofs.Ytegclodchhcbaaa
open Go.RowKit

theorem large_few {g : MGrid} {F : List MFault} {want : List Int} (h : largeB g F want = false) : FewG g ∧ F.length ≤ 15 ∧ want.length ≤ 30 := by
  unfold largeB farB at h
  simp only [Bool.or_eq_false_iff, decide_eq_false_iff_not] at h
  exact ⟨⟨by omega, by omega, by omega⟩, by omega, by omega⟩
def lenS (g : MGrid) (F : List MFault) : Nat := if checkGF g F = 0 then g.users.length else 0
theorem ServedP.form {g : MGrid} {F : List MFault} {w w' : World} {e : Ending} (h : ServedP g F w e w') (hn : g.users.length ≤ maxLen) : ∃ A, e = .returned (.tuple #[.slice A (lenS g F) (lenS g F), .int .i64 (checkGF g F)]) ∧ BoolsA w' w'.heap.size A (lenS g F) (servedB g F) ∧ Below w.heap.size w w' := by
  obtain ⟨hb, h | h⟩ := h
  · obtain ⟨h1, he⟩ := h
    have hl : lenS g F = 0 := if_neg h1
    rw [hl]
    exact ⟨none, he, BoolsA.nil _ _ _ _, hb⟩
  · obtain ⟨h1, v, he, ho⟩ := h
    have hl : lenS g F = g.users.length := if_pos h1
    rw [hl, h1]
    obtain ⟨A, rfl, hA⟩ := ho.reads hn
    exact ⟨A, he, hA, hb⟩
set_option maxRecDepth 100000 in
set_option maxHeartbeats 8000000 in
theorem serves_any (g : MGrid) (A1 A2 A3 : Option Addr) (c1 c2 c3 : Nat) (A : Option Addr) (cap : Nat) (F : List MFault) (Aw : Option Addr) (wc : Nat) (want : List Int) (w : World) (h : GridA w w.heap.size g A1 A2 A3) (hf : FaultsA w w.heap.size A F) (_hcap : F.length ≤ cap) (hw : IntsA w w.heap.size Aw want) :
    Calls Try.prog 3 #[.agg (caseC g A1 A2 A3 c1 c2 c3 A cap F Aw wc want)] w fun e w' => e = .returned (.bool true) ∧ Below w.heap.size w w' := by
  obtain ⟨w1, hw1⟩ : ∃ w1, w.alloc (.cells #[.int .i64 g.nodes, .slice A1 g.lines.length c1, .slice A2 g.srcs.length c2, .slice A3 g.users.length c3, .slice A F.length cap, .slice Aw want.length wc] 30) = w1 := ⟨_, rfl⟩
  have hb1 : Below w.heap.size w w1 := by rw [← hw1]; exact (Below.refl _ _).alloc (Nat.le_refl _) _
  have hs1 : w1.heap.size = w.heap.size + 1 := by rw [← hw1]; simp
  have hx1 : w1.heap[w.heap.size]? = some (.cells #[.int .i64 g.nodes, .slice A1 g.lines.length c1, .slice A2 g.srcs.length c2, .slice A3 g.users.length c3, .slice A F.length cap, .slice Aw want.length wc] 30 (0, 0)) := by rw [← hw1]; exact heap_alloc_new w _
  have HX : Hid (∀ W, Below w1.heap.size w1 W → Below w.heap.size w W ∧ W.cell? ⟨w.heap.size, 0, none⟩ = some (.int .i64 g.nodes) ∧ W.cell? ⟨w.heap.size, 1, none⟩ = some (.slice A1 g.lines.length c1) ∧ W.cell? ⟨w.heap.size, 2, none⟩ = some (.slice A2 g.srcs.length c2) ∧ W.cell? ⟨w.heap.size, 3, none⟩ = some (.slice A3 g.users.length c3) ∧ W.cell? ⟨w.heap.size, 4, none⟩ = some (.slice A F.length cap) ∧ W.cell? ⟨w.heap.size, 5, none⟩ = some (.slice Aw want.length wc)) := fun W hW => by
    have h1 := (hW.block w.heap.size (by omega)).trans hx1
    exact ⟨hb1.trans (hW.mono (by omega)), cell_of_row W _ 0 _ _ _ h1, cell_of_row W _ 1 _ _ _ h1, cell_of_row W _ 2 _ _ _ h1, cell_of_row W _ 3 _ _ _ h1, cell_of_row W _ 4 _ _ _ h1, cell_of_row W _ 5 _ _ _ h1⟩
  have HG : Hid (∀ W, Below w1.heap.size w1 W → GridA W W.heap.size g A1 A2 A3 ∧ FaultsA W W.heap.size A F ∧ IntsA W W.heap.size Aw want) := fun W hW => by
    have hW := (HX.out W hW).1
    exact ⟨(h.keep hW).more hW.size, (hf.keep hW).more hW.size, (hw.below hW (Nat.le_refl _)).more hW.size⟩
  obtain ⟨_, p0, p1, p2, p3, p4, p5⟩ := HX.out w1 (Below.refl _ _)
  obtain ⟨fb, hfb⟩ : ∃ fb, largeB g F want = fb := ⟨_, rfl⟩
  have HLG : Hid (∀ W, Below w1.heap.size w1 W → Calls Try.prog 15 #[.agg #[.int .i64 g.nodes, .slice A1 g.lines.length c1, .slice A2 g.srcs.length c2, .slice A3 g.users.length c3, .slice A F.length cap, .slice Aw want.length wc]] W fun e w' => e = .returned (.bool fb) ∧ Below W.heap.size W w') := fun W hW => large_any g A1 A2 A3 c1 c2 c3 A cap F Aw wc want W (HG.out W hW).1 (HG.out W hW).2.1 (HG.out W hW).2.2 hfb
  have HWK := Lib.hid works_any
  have HB0 : Hid (Below w1.heap.size w1 w1) := Below.refl _ _
  unfold caseC
  cases fb
  · obtain ⟨hfg, hfl, hwl⟩ := large_few hfb
    have H18 : Hid (∀ W, Below w1.heap.size w1 W → Calls Try.prog 18 #[.agg #[.int .i64 g.nodes, .slice A1 g.lines.length c1, .slice A2 g.srcs.length c2, .slice A3 g.users.length c3, .slice A F.length cap, .slice Aw want.length wc]] W fun e w' => ∃ B1 B2 B3 d1 d2 d3, e = .returned (.agg #[.int .i64 g.nodes, .slice B1 g.lines.length d1, .slice B2 g.srcs.length d2, .slice B3 g.users.length d3]) ∧ GridA w' w'.heap.size g B1 B2 B3 ∧ Below W.heap.size W w') := fun W hW => (grid_any g A1 A2 A3 c1 c2 c3 A cap F Aw wc want W (HG.out W hW).1 hfg).mono fun e w' ⟨B1, B2, B3, d1, d2, d3, he, ho, _, hb⟩ => ⟨B1, B2, B3, d1, d2, d3, he, ho.grid (HG.out W hW).1.ls.1 (HG.out W hW).1.ss.1 (HG.out W hW).1.us.1, hb⟩
    have H19 : Hid (∀ W, Below w1.heap.size w1 W → Calls Try.prog 19 #[.agg #[.int .i64 g.nodes, .slice A1 g.lines.length c1, .slice A2 g.srcs.length c2, .slice A3 g.users.length c3, .slice A F.length cap, .slice Aw want.length wc]] W fun e w' => ∃ B d, e = .returned (.slice B F.length d) ∧ F.length ≤ d ∧ FaultsA w' w'.heap.size B F ∧ Below W.heap.size W w') := fun W hW => (faults_any g A1 A2 A3 c1 c2 c3 A cap F Aw wc want W (HG.out W hW).2.1 (by omega)).mono fun e w' ⟨B, d, he, hd, ho, hb⟩ => ⟨B, d, he, hd, ⟨(HG.out W hW).2.1.1, ho.sl⟩, hb⟩
    have H23 : Hid (∀ W, Below w1.heap.size w1 W → Calls Try.prog 23 #[.agg #[.int .i64 g.nodes, .slice A1 g.lines.length c1, .slice A2 g.srcs.length c2, .slice A3 g.users.length c3, .slice A F.length cap, .slice Aw want.length wc]] W fun e w' => ∃ B d, e = .returned (.slice B want.length d) ∧ IntsA w' w'.heap.size B want ∧ Below W.heap.size W w') := fun W hW => (want_any g A1 A2 A3 c1 c2 c3 A cap F Aw wc want W (HG.out W hW).2.2 (by omega)).mono fun e w' ⟨v, he, ho, hb⟩ => by
      obtain ⟨B, d, rfl, _, hi⟩ := ho.reads
      exact ⟨B, d, he, hi, hb⟩
    obtain ⟨E, hE⟩ : ∃ E, checkGF g F = E := ⟨_, rfl⟩
    obtain ⟨L, hL⟩ : ∃ L, lenS g F = L := ⟨_, rfl⟩
    have H17 : Hid (∀ W B1 B2 B3 d1 d2 d3 Bf df, Below w1.heap.size w1 W → GridA W W.heap.size g B1 B2 B3 → FaultsA W W.heap.size Bf F → F.length ≤ df → Calls Try.prog 17 #[.agg #[.int .i64 g.nodes, .slice B1 g.lines.length d1, .slice B2 g.srcs.length d2, .slice B3 g.users.length d3], .slice Bf F.length df] W fun e w' => ∃ A', e = .returned (.tuple #[.slice A' L L, .int .i64 E]) ∧ BoolsA w' w'.heap.size A' L (servedB g F) ∧ Below W.heap.size W w') := fun W B1 B2 B3 d1 d2 d3 Bf df _ hg hff hd => (Served_any g B1 B2 B3 d1 d2 d3 Bf df F W hg hff hd).mono fun e w' hp => by
      have := hp.form hg.us.1
      rw [hE, hL] at this
      exact this
    have H20 : Hid (∀ W, Below w1.heap.size w1 W → Calls Try.prog 20 #[.agg #[.int .i64 g.nodes, .slice A1 g.lines.length c1, .slice A2 g.srcs.length c2, .slice A3 g.users.length c3], .slice A F.length cap] W fun e w' => ∃ A', e = .returned (.tuple #[.slice A' L L, .int .i64 E]) ∧ BoolsA w' w'.heap.size A' L (servedB g F) ∧ Below W.heap.size W w') := fun W hW => (rServed_any g A1 A2 A3 c1 c2 c3 A cap F W (HG.out W hW).1 (HG.out W hW).2.1).mono fun e w' hp => by
      have := hp.form (HG.out W hW).1.us.1
      rw [hE, hL] at this
      exact this
    clear hE hL
    clear hfb hb1 hx1 h hf hw
    go_enter Try.func3, Try.ntmps3
    go_upto_region 3 with (go_at_call 15; refine (HLG.out _ HB0.out).mono ?_; rintro e w2 ⟨rfl, hb2⟩; have HB2 := Lib.hid hb2; clear hb2 p0 p1 p2 p3 p4 p5)
    obtain ⟨_, p0, p1, p2, p3, p4, p5⟩ := HX.out w2 HB2.out
    have HB2D : Below w1.heap.size w1 w2.drew := HB2.out.drew
    go_region_held3 (fun W => W.cell? ⟨w.heap.size, 0, none⟩ = some (.int .i64 g.nodes) ∧ W.cell? ⟨w.heap.size, 1, none⟩ = some (.slice A1 g.lines.length c1) ∧ W.cell? ⟨w.heap.size, 2, none⟩ = some (.slice A2 g.srcs.length c2) ∧ W.cell? ⟨w.heap.size, 3, none⟩ = some (.slice A3 g.users.length c3) ∧ W.cell? ⟨w.heap.size, 4, none⟩ = some (.slice A F.length cap) ∧ W.cell? ⟨w.heap.size, 5, none⟩ = some (.slice Aw want.length wc)) (first | exact (HX.out _ HB2D).2 | exact (HX.out _ HB3).2 | exact (HX.out _ HB4).2 | exact (HX.out _ HB5).2 | fail) ((first
      | (go_at_call 18; (with_reducible refine (H18.out _ HB2D).mono ?_); rintro e w3 ⟨B1, B2, B3, d1, d2, d3, rfl, hg3, hb3⟩; have HG3 := Lib.hid hg3; have HB3 : Below w1.heap.size w1 w3 := bel_next HB2D hb3; clear hg3 hb3)
      | (go_at_call 19; (with_reducible refine (H19.out _ HB3).mono ?_); rintro e w4 ⟨Bf, df, rfl, hdf, hf4, hb4⟩; have HG4 := Lib.hid ((HG3.out.keep hb4).more hb4.size); have HF4 := Lib.hid hf4; have HD4 := Lib.hid hdf; have HB4 : Below w1.heap.size w1 w4 := bel_next HB3 hb4; clear hf4 hb4 hdf)
      | (go_at_call 17; (with_reducible refine (H17.out _ B1 B2 B3 d1 d2 d3 Bf df HB4 HG4.out HF4.out HD4.out).mono ?_); rintro e w5 ⟨A5, rfl, ha5, hb5⟩; have HA5 := Lib.hid ha5; have HB5 : Below w1.heap.size w1 w5 := bel_next HB4 hb5; clear ha5 hb5)
      | fail))
    clear p0 p1 p2 p3 p4 p5
    obtain ⟨_, p0, p1, p2, p3, p4, p5⟩ := HX.out w5 HB5
    go_wp2_with (first
      | (go_at_call 20; refine (H20.out _ HB5).mono ?_; rintro e w6 ⟨A6, rfl, ha6, hb6⟩; have HA6 := Lib.hid ha6; have HA5' := Lib.hid (HA5.out.later hb6); have HB6 : Below w1.heap.size w1 w6 := bel_next HB5 hb6; clear ha6 hb6)
      | (go_at_call 21; refine (sameBools_any A5 A6 L L L _ _ HA5'.out HA6.out).mono ?_; rintro e w7 ⟨rfl, hb7⟩; have HB7 : Below w1.heap.size w1 w7 := bel_next HB6 hb7; clear hb7)
      | (go_at_call 16; refine (HWK.out _).mono ?_; rintro e w8 ⟨rfl, hb8⟩; have HB8 : Below w1.heap.size w1 w8 := bel_next HB7 hb8; clear hb8)
      | fail)
    go_ret
    exact ⟨rfl, (HX.out _ HB8).1⟩
  · clear hfb hb1 hx1 h hf hw
    go_enter Try.func3, Try.ntmps3
    go_wp2_with (first
      | (go_at_call 15; refine (HLG.out _ HB0.out).mono ?_; rintro e w2 ⟨rfl, hb2⟩; have HB2 := Lib.hid hb2; clear hb2)
      | (go_at_call 16; refine (HWK.out _).mono ?_; rintro e w3 ⟨rfl, hb3⟩; have HB3 : Hid (Below w1.heap.size w1 w3) := HB2.out.trans (hb3.mono HB2.out.size); clear hb3)
      | fail)
    go_ret
    exact ⟨rfl, (HX.out _ HB3.out).1⟩
end Go.Proofs.Ytegclodchhcbaaa
