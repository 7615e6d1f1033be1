/- Law: Check, Live. Printed by gen_law8.py. -/
import Derived.Test.YtegclodchhcbaaaLs1
import Derived.Test.YtegclodchhcbaaaLy
import Derived.Test.YtegclodchhcbaaaSm
import Derived.Test.YtegclodchhcbaaaRck
namespace Go.Proofs.Ytegclodchhcbaaa
open Go.RowKit

theorem live_val (g : MGrid) (F : List MFault) : ∃ (m : Nat) (R : Nat → Bool), ∀ w e w', LiveP g F w e w' → ∃ A c, e = .returned (.tuple #[.slice A m c, .int .i64 (checkGF g F)]) ∧ BoolsA w' w'.heap.size A m R ∧ Below w.heap.size w w' := by
  by_cases hE : checkGF g F = 0
  · by_cases hx : ∃ n R, GridOk g n ∧ MostG g F [] n 0 R
    · obtain ⟨n, R, hg, hm⟩ := hx
      refine ⟨n, R, fun w e w' h => ?_⟩
      obtain ⟨hb, h | h⟩ := h
      · exact absurd hE h.1
      · obtain ⟨_, n', R', A, c, hg', hm', he, hB⟩ := h
        have en : n = n' := by have h1 := hg.nodes; have h2 := hg'.nodes; omega
        subst en
        rw [hE]
        exact ⟨A, c, he, hB.congr fun i hi => ((hm.same hm').2 i hi).symm, hb⟩
    · refine ⟨0, fun _ => false, fun w e w' h => ?_⟩
      obtain ⟨hb, h | h⟩ := h
      · exact absurd hE h.1
      · obtain ⟨_, n', R', A, c, hg', hm', _⟩ := h
        exact absurd ⟨n', R', hg', hm'⟩ hx
  · refine ⟨0, fun _ => false, fun w e w' h => ?_⟩
    obtain ⟨hb, h | h⟩ := h
    · exact ⟨none, 0, h.2, BoolsA.nil _ _ _ _, hb⟩
    · exact absurd h.1 hE
set_option maxRecDepth 100000 in
set_option maxHeartbeats 8000000 in
theorem checks_any (g : MGrid) (A1 A2 A3 : Option Addr) (c1 c2 c3 : Nat) (A : Option Addr) (cap : Nat) (F : List MFault) (Aw : Option Addr) (wc : Nat) (want : List Int) (w : World) (h : GridA w w.heap.size g A1 A2 A3) (hf : FaultsA w w.heap.size A F) (_hcap : F.length ≤ cap) (hw : IntsA w w.heap.size Aw want) :
    Calls Try.prog 9 #[.agg (caseC g A1 A2 A3 c1 c2 c3 A cap F Aw wc want)] w fun e w' => e = .returned (.bool true) ∧ Below w.heap.size w w' := by
  obtain ⟨w1, hw1⟩ : ∃ w1, w.alloc (.cells #[.int .i64 g.nodes, .slice A1 g.lines.length c1, .slice A2 g.srcs.length c2, .slice A3 g.users.length c3, .slice A F.length cap, .slice Aw want.length wc] 30) = w1 := ⟨_, rfl⟩
  have hb1 : Below w.heap.size w w1 := by rw [← hw1]; exact (Below.refl _ _).alloc (Nat.le_refl _) _
  have hs1 : w1.heap.size = w.heap.size + 1 := by rw [← hw1]; simp
  have hx1 : w1.heap[w.heap.size]? = some (.cells #[.int .i64 g.nodes, .slice A1 g.lines.length c1, .slice A2 g.srcs.length c2, .slice A3 g.users.length c3, .slice A F.length cap, .slice Aw want.length wc] 30 (0, 0)) := by rw [← hw1]; exact heap_alloc_new w _
  have HX : Hid (∀ W, Below w1.heap.size w1 W → Below w.heap.size w W ∧ W.cell? ⟨w.heap.size, 0, none⟩ = some (.int .i64 g.nodes) ∧ W.cell? ⟨w.heap.size, 1, none⟩ = some (.slice A1 g.lines.length c1) ∧ W.cell? ⟨w.heap.size, 2, none⟩ = some (.slice A2 g.srcs.length c2) ∧ W.cell? ⟨w.heap.size, 3, none⟩ = some (.slice A3 g.users.length c3) ∧ W.cell? ⟨w.heap.size, 4, none⟩ = some (.slice A F.length cap) ∧ W.cell? ⟨w.heap.size, 5, none⟩ = some (.slice Aw want.length wc)) := fun W hW => by
    have h1 := (hW.block w.heap.size (by omega)).trans hx1
    exact ⟨hb1.trans (hW.mono (by omega)), cell_of_row W _ 0 _ _ _ h1, cell_of_row W _ 1 _ _ _ h1, cell_of_row W _ 2 _ _ _ h1, cell_of_row W _ 3 _ _ _ h1, cell_of_row W _ 4 _ _ _ h1, cell_of_row W _ 5 _ _ _ h1⟩
  have HG : Hid (∀ W, Below w1.heap.size w1 W → GridA W W.heap.size g A1 A2 A3 ∧ FaultsA W W.heap.size A F ∧ IntsA W W.heap.size Aw want) := fun W hW => by
    have hW := (HX.out W hW).1
    exact ⟨(h.keep hW).more hW.size, (hf.keep hW).more hW.size, (hw.below hW (Nat.le_refl _)).more hW.size⟩
  obtain ⟨_, p0, p1, p2, p3, p4, p5⟩ := HX.out w1 (Below.refl _ _)
  obtain ⟨fb, hfb⟩ : ∃ fb, largeB g F want = fb := ⟨_, rfl⟩
  have HLG : Hid (∀ W, Below w1.heap.size w1 W → Calls Try.prog 15 #[.agg #[.int .i64 g.nodes, .slice A1 g.lines.length c1, .slice A2 g.srcs.length c2, .slice A3 g.users.length c3, .slice A F.length cap, .slice Aw want.length wc]] W fun e w' => e = .returned (.bool fb) ∧ Below W.heap.size W w') := fun W hW => large_any g A1 A2 A3 c1 c2 c3 A cap F Aw wc want W (HG.out W hW).1 (HG.out W hW).2.1 (HG.out W hW).2.2 hfb
  have HWK := Lib.hid works_any
  have HB0 : Hid (Below w1.heap.size w1 w1) := Below.refl _ _
  unfold caseC
  cases fb
  · obtain ⟨hfg, hfl, hwl⟩ := large_few hfb
    have H18 : Hid (∀ W, Below w1.heap.size w1 W → Calls Try.prog 18 #[.agg #[.int .i64 g.nodes, .slice A1 g.lines.length c1, .slice A2 g.srcs.length c2, .slice A3 g.users.length c3, .slice A F.length cap, .slice Aw want.length wc]] W fun e w' => ∃ B1 B2 B3 d1 d2 d3, e = .returned (.agg #[.int .i64 g.nodes, .slice B1 g.lines.length d1, .slice B2 g.srcs.length d2, .slice B3 g.users.length d3]) ∧ GridA w' w'.heap.size g B1 B2 B3 ∧ Below W.heap.size W w') := fun W hW => (grid_any g A1 A2 A3 c1 c2 c3 A cap F Aw wc want W (HG.out W hW).1 hfg).mono fun e w' ⟨B1, B2, B3, d1, d2, d3, he, ho, _, hb⟩ => ⟨B1, B2, B3, d1, d2, d3, he, ho.grid (HG.out W hW).1.ls.1 (HG.out W hW).1.ss.1 (HG.out W hW).1.us.1, hb⟩
    have H19 : Hid (∀ W, Below w1.heap.size w1 W → Calls Try.prog 19 #[.agg #[.int .i64 g.nodes, .slice A1 g.lines.length c1, .slice A2 g.srcs.length c2, .slice A3 g.users.length c3, .slice A F.length cap, .slice Aw want.length wc]] W fun e w' => ∃ B d, e = .returned (.slice B F.length d) ∧ F.length ≤ d ∧ FaultsA w' w'.heap.size B F ∧ Below W.heap.size W w') := fun W hW => (faults_any g A1 A2 A3 c1 c2 c3 A cap F Aw wc want W (HG.out W hW).2.1 (by omega)).mono fun e w' ⟨B, d, he, hd, ho, hb⟩ => ⟨B, d, he, hd, ⟨(HG.out W hW).2.1.1, ho.sl⟩, hb⟩
    have H23 : Hid (∀ W, Below w1.heap.size w1 W → Calls Try.prog 23 #[.agg #[.int .i64 g.nodes, .slice A1 g.lines.length c1, .slice A2 g.srcs.length c2, .slice A3 g.users.length c3, .slice A F.length cap, .slice Aw want.length wc]] W fun e w' => ∃ B d, e = .returned (.slice B want.length d) ∧ IntsA w' w'.heap.size B want ∧ Below W.heap.size W w') := fun W hW => (want_any g A1 A2 A3 c1 c2 c3 A cap F Aw wc want W (HG.out W hW).2.2 (by omega)).mono fun e w' ⟨v, he, ho, hb⟩ => by
      obtain ⟨B, d, rfl, _, hi⟩ := ho.reads
      exact ⟨B, d, he, hi, hb⟩
    obtain ⟨E, hE⟩ : ∃ E, checkGF g F = E := ⟨_, rfl⟩
    obtain ⟨Ck, hCk⟩ : ∃ Ck, checkG g = Ck := ⟨_, rfl⟩
    obtain ⟨m, R, hlv⟩ := live_val g F
    rw [hE] at hlv
    have H33 : Hid (∀ W B1 B2 B3 d1 d2 d3 Bf df, Below w1.heap.size w1 W → GridA W W.heap.size g B1 B2 B3 → FaultsA W W.heap.size Bf F → F.length ≤ df → Calls Try.prog 33 #[.agg #[.int .i64 g.nodes, .slice B1 g.lines.length d1, .slice B2 g.srcs.length d2, .slice B3 g.users.length d3], .slice Bf F.length df] W fun e w' => ∃ A c, e = .returned (.tuple #[.slice A m c, .int .i64 E]) ∧ BoolsA w' w'.heap.size A m R ∧ Below W.heap.size W w') := fun W B1 B2 B3 d1 d2 d3 Bf df _ hg hff hd => (Live_any g B1 B2 B3 d1 d2 d3 Bf df F W hg hff hd).mono fun e w' hp => hlv _ _ _ hp
    have H34 : Hid (∀ W, Below w1.heap.size w1 W → Calls Try.prog 34 #[.agg #[.int .i64 g.nodes, .slice A1 g.lines.length c1, .slice A2 g.srcs.length c2, .slice A3 g.users.length c3], .slice A F.length cap] W fun e w' => ∃ A c, e = .returned (.tuple #[.slice A m c, .int .i64 E]) ∧ BoolsA w' w'.heap.size A m R ∧ Below W.heap.size W w') := fun W hW => (rLive_any g A1 A2 A3 c1 c2 c3 A cap F W (HG.out W hW).1 (HG.out W hW).2.1).mono fun e w' hp => hlv _ _ _ hp
    have H35 : Hid (∀ W B1 B2 B3 d1 d2 d3, GridA W W.heap.size g B1 B2 B3 → Calls Try.prog 35 #[.agg #[.int .i64 g.nodes, .slice B1 g.lines.length d1, .slice B2 g.srcs.length d2, .slice B3 g.users.length d3]] W fun e w' => e = .returned (.int .i64 Ck) ∧ Below W.heap.size W w') := fun W B1 B2 B3 d1 d2 d3 hg => check_any g B1 B2 B3 d1 d2 d3 W hg hCk
    have H36 : Hid (∀ W, Below w1.heap.size w1 W → Calls Try.prog 36 #[.agg #[.int .i64 g.nodes, .slice A1 g.lines.length c1, .slice A2 g.srcs.length c2, .slice A3 g.users.length c3]] W fun e w' => e = .returned (.int .i64 Ck) ∧ Below W.heap.size W w') := fun W hW => rcheck_any g A1 A2 A3 c1 c2 c3 W (HG.out W hW).1 hCk
    have H37 : Hid (∀ W B1 B2 B3 d1 d2 d3, Below w1.heap.size w1 W → GridA W W.heap.size g B1 B2 B3 → Calls Try.prog 37 #[.agg #[.int .i64 g.nodes, .slice B1 g.lines.length d1, .slice B2 g.srcs.length d2, .slice B3 g.users.length d3], .agg #[.int .i64 g.nodes, .slice A1 g.lines.length c1, .slice A2 g.srcs.length c2, .slice A3 g.users.length c3]] W fun e w' => e = .returned (.bool true) ∧ Below W.heap.size W w') := fun W B1 B2 B3 d1 d2 d3 hW hg => same_any g B1 B2 B3 A1 A2 A3 d1 d2 d3 c1 c2 c3 W hg (HG.out W hW).1
    have HSZ : Hid (w.heap.size < w1.heap.size) := by show _ < _; omega
    clear hE hCk hlv H23
    clear hfb hb1 hx1 h hf hw
    go_enter Try.func9, Try.ntmps9
    go_upto_region 4 with (first
      | (go_at_call 15; refine (HLG.out _ HB0.out).mono ?_; rintro e w2 ⟨rfl, hb2⟩; have HB2 := Lib.hid hb2; clear hb2 p0 p1 p2 p3 p4 p5; obtain ⟨_, p0, p1, p2, p3, p4, p5⟩ := HX.out w2 HB2.out)
      | (go_at_call 18; refine (H18.out _ HB2.out).mono ?_; rintro e w3 ⟨B1, B2, B3, d1, d2, d3, rfl, hg3, hb3⟩; have HG3 := Lib.hid hg3; have HB3 : Below w1.heap.size w1 w3 := bel_next HB2.out hb3; clear hg3 hb3 p0 p1 p2 p3 p4 p5)
      | fail)
    obtain ⟨w4, hw4⟩ : ∃ w4, w3.alloc (.cells #[.int .i64 g.nodes, .slice B1 g.lines.length d1, .slice B2 g.srcs.length d2, .slice B3 g.users.length d3] 26) = w4 := ⟨_, rfl⟩
    have hb4 : Below w3.heap.size w3 w4 := by rw [← hw4]; exact (Below.refl _ _).alloc (Nat.le_refl _) _
    have hx4 : w4.heap[w3.heap.size]? = some (.cells #[.int .i64 g.nodes, .slice B1 g.lines.length d1, .slice B2 g.srcs.length d2, .slice B3 g.users.length d3] 26 (0, 0)) := by rw [← hw4]; exact heap_alloc_new w3 _
    have hs4 : w4.heap.size = w3.heap.size + 1 := by rw [← hw4]; simp
    have HB4 : Below w1.heap.size w1 w4 := bel_next HB3 hb4
    have HG4 : Hid (GridA w4 w4.heap.size g B1 B2 B3) := (HG3.out.keep hb4).more hb4.size
    rw [hw4]
    generalize w3.heap.size = gb at *
    have HY : Hid (∀ W, Below w4.heap.size w4 W → W.cell? ⟨w.heap.size, 0, none⟩ = some (.int .i64 g.nodes) ∧ W.cell? ⟨w.heap.size, 1, none⟩ = some (.slice A1 g.lines.length c1) ∧ W.cell? ⟨w.heap.size, 2, none⟩ = some (.slice A2 g.srcs.length c2) ∧ W.cell? ⟨w.heap.size, 3, none⟩ = some (.slice A3 g.users.length c3) ∧ W.cell? ⟨w.heap.size, 4, none⟩ = some (.slice A F.length cap) ∧ W.cell? ⟨w.heap.size, 5, none⟩ = some (.slice Aw want.length wc) ∧ W.cell? ⟨gb, 0, none⟩ = some (.int .i64 g.nodes) ∧ W.cell? ⟨gb, 1, none⟩ = some (.slice B1 g.lines.length d1) ∧ W.cell? ⟨gb, 2, none⟩ = some (.slice B2 g.srcs.length d2) ∧ W.cell? ⟨gb, 3, none⟩ = some (.slice B3 g.users.length d3)) := fun W hW => by
      have h1 := (HX.out W (bel_next HB4 hW)).2
      have h2 := (hW.block gb (by omega)).trans hx4
      exact ⟨h1.1, h1.2.1, h1.2.2.1, h1.2.2.2.1, h1.2.2.2.2.1, h1.2.2.2.2.2, cell_of_row W _ 0 _ _ _ h2, cell_of_row W _ 1 _ _ _ h2, cell_of_row W _ 2 _ _ _ h2, cell_of_row W _ 3 _ _ _ h2⟩
    obtain ⟨p0, p1, p2, p3, p4, p5, q0, q1, q2, q3⟩ := HY.out w4 (Below.refl _ _)
    have HB4D : Below w1.heap.size w1 w4.drew := HB4.drew
    have HC4D : Below w4.heap.size w4 w4.drew := (Below.refl _ _).drew
    clear hw4 hx4 hs4 hb4
    go_region_held3 (fun W => W.cell? ⟨w.heap.size, 0, none⟩ = some (.int .i64 g.nodes) ∧ W.cell? ⟨w.heap.size, 1, none⟩ = some (.slice A1 g.lines.length c1) ∧ W.cell? ⟨w.heap.size, 2, none⟩ = some (.slice A2 g.srcs.length c2) ∧ W.cell? ⟨w.heap.size, 3, none⟩ = some (.slice A3 g.users.length c3) ∧ W.cell? ⟨w.heap.size, 4, none⟩ = some (.slice A F.length cap) ∧ W.cell? ⟨w.heap.size, 5, none⟩ = some (.slice Aw want.length wc) ∧ W.cell? ⟨gb, 0, none⟩ = some (.int .i64 g.nodes) ∧ W.cell? ⟨gb, 1, none⟩ = some (.slice B1 g.lines.length d1) ∧ W.cell? ⟨gb, 2, none⟩ = some (.slice B2 g.srcs.length d2) ∧ W.cell? ⟨gb, 3, none⟩ = some (.slice B3 g.users.length d3)) (first | exact HY.out _ HC4D | exact HY.out _ HC5 | exact HY.out _ HC6 | fail) ((first
      | (go_at_call 19; (with_reducible refine (H19.out _ HB4D).mono ?_); rintro e w5 ⟨Bf, df, rfl, hdf, hf5, hb5⟩; have HC5 : Below w4.heap.size w4 w5 := bel_next HC4D hb5; have HG5 := Lib.hid ((HG4.out.keep HC5).more HC5.size); have HF5 := Lib.hid hf5; have HD5 := Lib.hid hdf; have HB5 : Below w1.heap.size w1 w5 := bel_next HB4D hb5; clear hf5 hb5 hdf)
      | (go_at_call 33; (with_reducible refine (H33.out _ B1 B2 B3 d1 d2 d3 Bf df HB5 HG5.out HF5.out HD5.out).mono ?_); rintro e w6 ⟨A6, c6, rfl, ha6, hb6⟩; have HA6 := Lib.hid ha6; have HC6 : Below w4.heap.size w4 w6 := bel_next HC5 hb6; have HB6 : Below w1.heap.size w1 w6 := bel_next HB5 hb6; clear ha6 hb6)
      | fail))
    clear p0 p1 p2 p3 p4 p5 q0 q1 q2 q3
    obtain ⟨p0, p1, p2, p3, p4, p5, q0, q1, q2, q3⟩ := HY.out w6 HC6
    go_upto_region 6 with (first
      | (go_at_call 34; refine (H34.out _ HB6).mono ?_; rintro e w7 ⟨A7, c7, rfl, ha7, hb7⟩; have HA7 := Lib.hid ha7; have HA6' := Lib.hid (HA6.out.later hb7); have HC7 : Below w4.heap.size w4 w7 := bel_next HC6 hb7; have HB7 : Below w1.heap.size w1 w7 := bel_next HB6 hb7; clear ha7 hb7 p0 p1 p2 p3 p4 p5 q0 q1 q2 q3)
      | fail)
    obtain ⟨p0, p1, p2, p3, p4, p5, q0, q1, q2, q3⟩ := HY.out w7 HC7
    have HB7D : Below w1.heap.size w1 w7.drew := HB7.drew
    have HC7D : Below w4.heap.size w4 w7.drew := HC7.drew
    have HD7 : Below w7.heap.size w7 w7.drew := (Below.refl _ _).drew
    have HG7 : Hid (∀ W, Below w4.heap.size w4 W → GridA W W.heap.size g B1 B2 B3) := fun W hW => (HG4.out.keep hW).more hW.size
    have HAB : Hid (∀ W, Below w7.heap.size w7 W → BoolsA W W.heap.size A6 m R ∧ BoolsA W W.heap.size A7 m R) := fun W hW => ⟨HA6'.out.later hW, HA7.out.later hW⟩
    go_region_held3 (fun W => W.cell? ⟨w.heap.size, 0, none⟩ = some (.int .i64 g.nodes) ∧ W.cell? ⟨w.heap.size, 1, none⟩ = some (.slice A1 g.lines.length c1) ∧ W.cell? ⟨w.heap.size, 2, none⟩ = some (.slice A2 g.srcs.length c2) ∧ W.cell? ⟨w.heap.size, 3, none⟩ = some (.slice A3 g.users.length c3) ∧ W.cell? ⟨w.heap.size, 4, none⟩ = some (.slice A F.length cap) ∧ W.cell? ⟨w.heap.size, 5, none⟩ = some (.slice Aw want.length wc) ∧ W.cell? ⟨gb, 0, none⟩ = some (.int .i64 g.nodes) ∧ W.cell? ⟨gb, 1, none⟩ = some (.slice B1 g.lines.length d1) ∧ W.cell? ⟨gb, 2, none⟩ = some (.slice B2 g.srcs.length d2) ∧ W.cell? ⟨gb, 3, none⟩ = some (.slice B3 g.users.length d3)) (first | exact HY.out _ HC7D | exact HY.out _ HC8 | exact HY.out _ HC9 | exact HY.out _ HC10 | exact HY.out _ HC11 | exact HY.out _ HC12 | fail) ((first
      | (go_at_call 35; (with_reducible refine (H35.out _ B1 B2 B3 d1 d2 d3 (HG7.out _ HC7D)).mono ?_); rintro e w8 ⟨rfl, hb8⟩; have HC8 : Below w4.heap.size w4 w8 := bel_next HC7D hb8; have HD8 : Below w7.heap.size w7 w8 := bel_next HD7 hb8; have HB8 : Below w1.heap.size w1 w8 := bel_next HB7D hb8; clear hb8)
      | (go_at_call 36; (with_reducible refine (H36.out _ HB8).mono ?_); rintro e w9 ⟨rfl, hb9⟩; have HC9 : Below w4.heap.size w4 w9 := bel_next HC8 hb9; have HD9 : Below w7.heap.size w7 w9 := bel_next HD8 hb9; have HB9 : Below w1.heap.size w1 w9 := bel_next HB8 hb9; clear hb9)
      | (go_at_call 21; (with_reducible refine (sameBools_any A6 A7 c6 c7 m R _ (HAB.out _ HD9).1 (HAB.out _ HD9).2).mono ?_); rintro e w10 ⟨rfl, hb10⟩; have HC10 : Below w4.heap.size w4 w10 := bel_next HC9 hb10; have HB10 : Below w1.heap.size w1 w10 := bel_next HB9 hb10; clear hb10)
      | (go_at_call 37; (with_reducible refine (H37.out _ B1 B2 B3 d1 d2 d3 HB10 (HG7.out _ HC10)).mono ?_); rintro e w11 ⟨rfl, hb11⟩; have HC11 : Below w4.heap.size w4 w11 := bel_next HC10 hb11; have HB11 : Below w1.heap.size w1 w11 := bel_next HB10 hb11; clear hb11)
      | (go_at_call 16; (with_reducible refine (HWK.out _).mono ?_); rintro e w12 ⟨rfl, hb12⟩; have HC12 : Below w4.heap.size w4 w12 := bel_next HC11 hb12; have HB12 : Below w1.heap.size w1 w12 := bel_next HB11 hb12; clear hb12)
      | fail))
    go_wp2_with fail
    go_ret
    exact ⟨rfl, (HX.out _ HB12).1⟩
  · clear hfb hb1 hx1 h hf hw
    go_enter Try.func9, Try.ntmps9
    go_wp2_with (first
      | (go_at_call 15; refine (HLG.out _ HB0.out).mono ?_; rintro e w2 ⟨rfl, hb2⟩; have HB2 := Lib.hid hb2; clear hb2)
      | (go_at_call 16; refine (HWK.out _).mono ?_; rintro e w3 ⟨rfl, hb3⟩; have HB3 : Hid (Below w1.heap.size w1 w3) := HB2.out.trans (hb3.mono HB2.out.size); clear hb3)
      | fail)
    go_ret
    exact ⟨rfl, (HX.out _ HB3.out).1⟩
end Go.Proofs.Ytegclodchhcbaaa
