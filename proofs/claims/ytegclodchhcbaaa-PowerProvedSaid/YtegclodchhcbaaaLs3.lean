/- Law: Cut. Printed by gen_law8.py. -/
import Derived.Test.YtegclodchhcbaaaLs2
import Derived.Test.YtegclodchhcbaaaRq
import Derived.Test.YtegclodchhcbaaaSi
namespace Go.Proofs.Ytegclodchhcbaaa
open Go.RowKit

theorem cutL_congr {R R' : Nat → Bool} {n : Nat} (h : ∀ x, x < n → R x = R' x) (k : Nat) : cutL R n k = cutL R' n k := by
  unfold cutL
  congr 1
  refine List.filter_congr fun x _ => ?_
  by_cases hx : x < n
  · rw [h x hx]
  · simp [hx]
theorem cut_val (g : MGrid) (F : List MFault) (want : List Int) : ∃ sum l, ∀ w e w', CutP g F want w e w' → ∃ A c, e = .returned (.tuple #[.slice A l.length c, .int .i64 sum, .int .i64 (checkA g F want)]) ∧ IntsA w' w'.heap.size A l ∧ Below w.heap.size w w' := by
  by_cases hE : checkA g F want = 0
  · by_cases hx : ∃ n sum R, GridOk g n ∧ MostG g F want n sum R
    · obtain ⟨n, sum, R, hg, hm⟩ := hx
      refine ⟨sum, cutL R n 22, fun w e w' h => ?_⟩
      obtain ⟨hb, v, s', he, _, hok⟩ := h
      obtain ⟨n', R', hg', hm', ho⟩ := hok hE
      obtain rfl := grid_n hg hg'
      obtain ⟨A, c, rfl, _, hi⟩ := ho.reads
      rw [← cutL_congr (hm.same hm').2] at he hi
      exact ⟨A, c, by rw [he, (hm.same hm').1], hi, hb⟩
    · exact ⟨0, [], fun w e w' h => by
        obtain ⟨_, v, s', he, _, hok⟩ := h
        obtain ⟨n', R', hg', hm', _⟩ := hok hE
        exact absurd ⟨n', s', R', hg', hm'⟩ hx⟩
  · exact ⟨0, [], fun w e w' h => by
      obtain ⟨hb, v, s', he, h0, _⟩ := h
      obtain ⟨rfl, rfl⟩ := h0 hE
      exact ⟨none, 0, he, ⟨by simp, fun h => by simp at h⟩, hb⟩⟩
set_option maxRecDepth 100000 in
set_option maxHeartbeats 8000000 in
theorem cuts_any (g : MGrid) (A1 A2 A3 : Option Addr) (c1 c2 c3 : Nat) (A : Option Addr) (cap : Nat) (F : List MFault) (Aw : Option Addr) (wc : Nat) (want : List Int) (w : World) (h : GridA w w.heap.size g A1 A2 A3) (hf : FaultsA w w.heap.size A F) (_hcap : F.length ≤ cap) (hw : IntsA w w.heap.size Aw want) :
    Calls Try.prog 7 #[.agg (caseC g A1 A2 A3 c1 c2 c3 A cap F Aw wc want)] w fun e w' => e = .returned (.bool true) ∧ Below w.heap.size w w' := by
  obtain ⟨w1, hw1⟩ : ∃ w1, w.alloc (.cells #[.int .i64 g.nodes, .slice A1 g.lines.length c1, .slice A2 g.srcs.length c2, .slice A3 g.users.length c3, .slice A F.length cap, .slice Aw want.length wc] 30) = w1 := ⟨_, rfl⟩
  have hb1 : Below w.heap.size w w1 := by rw [← hw1]; exact (Below.refl _ _).alloc (Nat.le_refl _) _
  have hs1 : w1.heap.size = w.heap.size + 1 := by rw [← hw1]; simp
  have hx1 : w1.heap[w.heap.size]? = some (.cells #[.int .i64 g.nodes, .slice A1 g.lines.length c1, .slice A2 g.srcs.length c2, .slice A3 g.users.length c3, .slice A F.length cap, .slice Aw want.length wc] 30 (0, 0)) := by rw [← hw1]; exact heap_alloc_new w _
  have HX : Hid (∀ W, Below w1.heap.size w1 W → Below w.heap.size w W ∧ W.cell? ⟨w.heap.size, 0, none⟩ = some (.int .i64 g.nodes) ∧ W.cell? ⟨w.heap.size, 1, none⟩ = some (.slice A1 g.lines.length c1) ∧ W.cell? ⟨w.heap.size, 2, none⟩ = some (.slice A2 g.srcs.length c2) ∧ W.cell? ⟨w.heap.size, 3, none⟩ = some (.slice A3 g.users.length c3) ∧ W.cell? ⟨w.heap.size, 4, none⟩ = some (.slice A F.length cap) ∧ W.cell? ⟨w.heap.size, 5, none⟩ = some (.slice Aw want.length wc)) := fun W hW => by
    have h1 := (hW.block w.heap.size (by omega)).trans hx1
    exact ⟨hb1.trans (hW.mono (by omega)), cell_of_row W _ 0 _ _ _ h1, cell_of_row W _ 1 _ _ _ h1, cell_of_row W _ 2 _ _ _ h1, cell_of_row W _ 3 _ _ _ h1, cell_of_row W _ 4 _ _ _ h1, cell_of_row W _ 5 _ _ _ h1⟩
  have HG : Hid (∀ W, Below w1.heap.size w1 W → GridA W W.heap.size g A1 A2 A3 ∧ FaultsA W W.heap.size A F ∧ IntsA W W.heap.size Aw want) := fun W hW => by
    have hW := (HX.out W hW).1
    exact ⟨(h.keep hW).more hW.size, (hf.keep hW).more hW.size, (hw.below hW (Nat.le_refl _)).more hW.size⟩
  obtain ⟨_, p0, p1, p2, p3, p4, p5⟩ := HX.out w1 (Below.refl _ _)
  obtain ⟨fb, hfb⟩ : ∃ fb, largeB g F want = fb := ⟨_, rfl⟩
  have HLG : Hid (∀ W, Below w1.heap.size w1 W → Calls Try.prog 15 #[.agg #[.int .i64 g.nodes, .slice A1 g.lines.length c1, .slice A2 g.srcs.length c2, .slice A3 g.users.length c3, .slice A F.length cap, .slice Aw want.length wc]] W fun e w' => e = .returned (.bool fb) ∧ Below W.heap.size W w') := fun W hW => large_any g A1 A2 A3 c1 c2 c3 A cap F Aw wc want W (HG.out W hW).1 (HG.out W hW).2.1 (HG.out W hW).2.2 hfb
  have HWK := Lib.hid works_any
  have HB0 : Hid (Below w1.heap.size w1 w1) := Below.refl _ _
  unfold caseC
  cases fb
  · obtain ⟨hfg, hfl, hwl⟩ := large_few hfb
    have H18 : Hid (∀ W, Below w1.heap.size w1 W → Calls Try.prog 18 #[.agg #[.int .i64 g.nodes, .slice A1 g.lines.length c1, .slice A2 g.srcs.length c2, .slice A3 g.users.length c3, .slice A F.length cap, .slice Aw want.length wc]] W fun e w' => ∃ B1 B2 B3 d1 d2 d3, e = .returned (.agg #[.int .i64 g.nodes, .slice B1 g.lines.length d1, .slice B2 g.srcs.length d2, .slice B3 g.users.length d3]) ∧ GridA w' w'.heap.size g B1 B2 B3 ∧ Below W.heap.size W w') := fun W hW => (grid_any g A1 A2 A3 c1 c2 c3 A cap F Aw wc want W (HG.out W hW).1 hfg).mono fun e w' ⟨B1, B2, B3, d1, d2, d3, he, ho, _, hb⟩ => ⟨B1, B2, B3, d1, d2, d3, he, ho.grid (HG.out W hW).1.ls.1 (HG.out W hW).1.ss.1 (HG.out W hW).1.us.1, hb⟩
    have H19 : Hid (∀ W, Below w1.heap.size w1 W → Calls Try.prog 19 #[.agg #[.int .i64 g.nodes, .slice A1 g.lines.length c1, .slice A2 g.srcs.length c2, .slice A3 g.users.length c3, .slice A F.length cap, .slice Aw want.length wc]] W fun e w' => ∃ B d, e = .returned (.slice B F.length d) ∧ F.length ≤ d ∧ FaultsA w' w'.heap.size B F ∧ Below W.heap.size W w') := fun W hW => (faults_any g A1 A2 A3 c1 c2 c3 A cap F Aw wc want W (HG.out W hW).2.1 (by omega)).mono fun e w' ⟨B, d, he, hd, ho, hb⟩ => ⟨B, d, he, hd, ⟨(HG.out W hW).2.1.1, ho.sl⟩, hb⟩
    have H23 : Hid (∀ W, Below w1.heap.size w1 W → Calls Try.prog 23 #[.agg #[.int .i64 g.nodes, .slice A1 g.lines.length c1, .slice A2 g.srcs.length c2, .slice A3 g.users.length c3, .slice A F.length cap, .slice Aw want.length wc]] W fun e w' => ∃ B d, e = .returned (.slice B want.length d) ∧ IntsA w' w'.heap.size B want ∧ Below W.heap.size W w') := fun W hW => (want_any g A1 A2 A3 c1 c2 c3 A cap F Aw wc want W (HG.out W hW).2.2 (by omega)).mono fun e w' ⟨v, he, ho, hb⟩ => by
      obtain ⟨B, d, rfl, _, hi⟩ := ho.reads
      exact ⟨B, d, he, hi, hb⟩
    obtain ⟨E, hE⟩ : ∃ E, checkA g F want = E := ⟨_, rfl⟩
    obtain ⟨sum, l, hcut⟩ := cut_val g F want
    rw [hE] at hcut
    have H28 : Hid (∀ W B1 B2 B3 d1 d2 d3 Bf df Bw dw, Below w1.heap.size w1 W → GridA W W.heap.size g B1 B2 B3 → FaultsA W W.heap.size Bf F → F.length ≤ df → IntsA W W.heap.size Bw want → Calls Try.prog 28 #[.agg #[.int .i64 g.nodes, .slice B1 g.lines.length d1, .slice B2 g.srcs.length d2, .slice B3 g.users.length d3], .slice Bf F.length df, .slice Bw want.length dw] W fun e w' => ∃ A c, e = .returned (.tuple #[.slice A l.length c, .int .i64 sum, .int .i64 E]) ∧ IntsA w' w'.heap.size A l ∧ Below W.heap.size W w') := fun W B1 B2 B3 d1 d2 d3 Bf df Bw dw _ hg hff hd hi => (Cut_any g B1 B2 B3 d1 d2 d3 Bf df F Bw dw want W hg hff hd hi).mono fun e w' hp => hcut _ _ _ hp
    have H29 : Hid (∀ W, Below w1.heap.size w1 W → Calls Try.prog 29 #[.agg #[.int .i64 g.nodes, .slice A1 g.lines.length c1, .slice A2 g.srcs.length c2, .slice A3 g.users.length c3], .slice A F.length cap, .slice Aw want.length wc] W fun e w' => ∃ A c, e = .returned (.tuple #[.slice A l.length c, .int .i64 sum, .int .i64 E]) ∧ IntsA w' w'.heap.size A l ∧ Below W.heap.size W w') := fun W hW => (rCut_any g A1 A2 A3 c1 c2 c3 A cap F Aw wc want W (HG.out W hW).1 (HG.out W hW).2.1 (HG.out W hW).2.2).mono fun e w' hp => hcut _ _ _ hp
    clear hE hcut
    clear hfb hb1 hx1 h hf hw
    go_enter Try.func7, Try.ntmps7
    go_upto_region 3 with (go_at_call 15; refine (HLG.out _ HB0.out).mono ?_; rintro e w2 ⟨rfl, hb2⟩; have HB2 := Lib.hid hb2; clear hb2 p0 p1 p2 p3 p4 p5)
    obtain ⟨_, p0, p1, p2, p3, p4, p5⟩ := HX.out w2 HB2.out
    have HB2D : Below w1.heap.size w1 w2.drew := HB2.out.drew
    go_region_held3 (fun W => W.cell? ⟨w.heap.size, 0, none⟩ = some (.int .i64 g.nodes) ∧ W.cell? ⟨w.heap.size, 1, none⟩ = some (.slice A1 g.lines.length c1) ∧ W.cell? ⟨w.heap.size, 2, none⟩ = some (.slice A2 g.srcs.length c2) ∧ W.cell? ⟨w.heap.size, 3, none⟩ = some (.slice A3 g.users.length c3) ∧ W.cell? ⟨w.heap.size, 4, none⟩ = some (.slice A F.length cap) ∧ W.cell? ⟨w.heap.size, 5, none⟩ = some (.slice Aw want.length wc)) (first | exact (HX.out _ HB2D).2 | exact (HX.out _ HB3).2 | exact (HX.out _ HB4).2 | exact (HX.out _ HB5).2 | exact (HX.out _ HB6).2 | fail) ((first
      | (go_at_call 18; (with_reducible refine (H18.out _ HB2D).mono ?_); rintro e w3 ⟨B1, B2, B3, d1, d2, d3, rfl, hg3, hb3⟩; have HG3 := Lib.hid hg3; have HB3 : Below w1.heap.size w1 w3 := bel_next HB2D hb3; clear hg3 hb3)
      | (go_at_call 19; (with_reducible refine (H19.out _ HB3).mono ?_); rintro e w4 ⟨Bf, df, rfl, hdf, hf4, hb4⟩; have HG4 := Lib.hid ((HG3.out.keep hb4).more hb4.size); have HF4 := Lib.hid hf4; have HD4 := Lib.hid hdf; have HB4 : Below w1.heap.size w1 w4 := bel_next HB3 hb4; clear hf4 hb4 hdf)
      | (go_at_call 23; (with_reducible refine (H23.out _ HB4).mono ?_); rintro e w5 ⟨Bw, dw, rfl, hi5, hb5⟩; have HG5 := Lib.hid ((HG4.out.keep hb5).more hb5.size); have HF5 := Lib.hid ((HF4.out.keep hb5).more hb5.size); have HI5 := Lib.hid hi5; have HB5 : Below w1.heap.size w1 w5 := bel_next HB4 hb5; clear hi5 hb5)
      | (go_at_call 28; (with_reducible refine (H28.out _ B1 B2 B3 d1 d2 d3 Bf df Bw dw HB5 HG5.out HF5.out HD4.out HI5.out).mono ?_); rintro e w6 ⟨A6, c6, rfl, hi6, hb6⟩; have HI6 := Lib.hid hi6; clear hi6; have HB6 : Below w1.heap.size w1 w6 := bel_next HB5 hb6; clear hb6)
      | fail))
    clear p0 p1 p2 p3 p4 p5
    obtain ⟨_, p0, p1, p2, p3, p4, p5⟩ := HX.out w6 HB6
    go_wp2_with (first
      | (go_at_call 29; refine (H29.out _ HB6).mono ?_; rintro e w7 ⟨A7, c7, rfl, hi7, hb7⟩; have HI7 := Lib.hid hi7; have HI6' := Lib.hid ((HI6.out.below hb7 (Nat.le_refl _)).more hb7.size); have HB7 : Below w1.heap.size w1 w7 := bel_next HB6 hb7; clear hb7 hi7)
      | (go_at_call 30; refine (sameInts_any A6 A7 c6 c7 l l _ HI6'.out HI7.out (decide_eq_true rfl)).mono ?_; rintro e w8 ⟨rfl, hb8⟩; have HB8 : Below w1.heap.size w1 w8 := bel_next HB7 hb8; clear hb8)
      | (go_at_call 16; refine (HWK.out _).mono ?_; rintro e w9 ⟨rfl, hb9⟩; have HB9 : Below w1.heap.size w1 w9 := bel_next HB8 hb9; clear hb9)
      | fail)
    go_ret
    exact ⟨rfl, (HX.out _ HB9).1⟩
  · clear hfb hb1 hx1 h hf hw
    go_enter Try.func7, Try.ntmps7
    go_wp2_with (first
      | (go_at_call 15; refine (HLG.out _ HB0.out).mono ?_; rintro e w2 ⟨rfl, hb2⟩; have HB2 := Lib.hid hb2; clear hb2)
      | (go_at_call 16; refine (HWK.out _).mono ?_; rintro e w3 ⟨rfl, hb3⟩; have HB3 : Hid (Below w1.heap.size w1 w3) := HB2.out.trans (hb3.mono HB2.out.size); clear hb3)
      | fail)
    go_ret
    exact ⟨rfl, (HX.out _ HB3.out).1⟩
end Go.Proofs.Ytegclodchhcbaaa
