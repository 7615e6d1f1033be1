/- Law: Flow, Carries. Printed by gen_law8.py. -/
import Derived.Test.YtegclodchhcbaaaLs1
namespace Go.Proofs.Ytegclodchhcbaaa
open Go.RowKit

theorem grid_n {g : MGrid} {n n' : Nat} (h : GridOk g n) (h' : GridOk g n') : n = n' := by
  have h1 := h.nodes
  have h2 := h'.nodes
  omega
theorem flow_val (g : MGrid) (F : List MFault) (want : List Int) : ∃ sum, ∀ w e w', FlowP g F want w e w' → e = .returned (.tuple #[.int .i64 sum, .int .i64 (checkA g F want)]) := by
  by_cases hE : checkA g F want = 0
  · by_cases hx : ∃ n sum R, GridOk g n ∧ MostG g F want n sum R
    · obtain ⟨n, sum, R, hg, hm⟩ := hx
      refine ⟨sum, fun w e w' h => ?_⟩
      obtain ⟨_, s', he, _, hok⟩ := h
      obtain ⟨n', R', hg', hm'⟩ := hok hE
      obtain rfl := grid_n hg hg'
      rw [he, (hm.same hm').1]
    · exact ⟨0, fun w e w' h => by
        obtain ⟨_, s', he, _, hok⟩ := h
        obtain ⟨n', R', hg', hm'⟩ := hok hE
        exact absurd ⟨n', s', R', hg', hm'⟩ hx⟩
  · exact ⟨0, fun w e w' h => by
      obtain ⟨_, s', he, h0, _⟩ := h
      rw [he, h0 hE]⟩
theorem carries_val (g : MGrid) (F : List MFault) (want : List Int) : ∃ b, ∀ w e w', CarriesP g F want w e w' → e = .returned (.tuple #[.bool b, .int .i64 (checkA g F want)]) := by
  by_cases hE : checkA g F want = 0
  · by_cases hx : ∃ n sum R, GridOk g n ∧ MostG g F want n sum R
    · obtain ⟨n, sum, R, hg, hm⟩ := hx
      refine ⟨decide (sum = needS g want want.length), fun w e w' h => ?_⟩
      obtain ⟨_, b', he, _, hok⟩ := h
      obtain ⟨n', s', R', hg', hm', hb⟩ := hok hE
      obtain rfl := grid_n hg hg'
      rw [he, hb, (hm.same hm').1]
    · exact ⟨false, fun w e w' h => by
        obtain ⟨_, b', he, _, hok⟩ := h
        obtain ⟨n', s', R', hg', hm', hb⟩ := hok hE
        exact absurd ⟨n', s', R', hg', hm'⟩ hx⟩
  · exact ⟨false, fun w e w' h => by
      obtain ⟨_, s', he, h0, _⟩ := h
      rw [he, h0 hE]⟩
set_option maxRecDepth 100000 in
set_option maxHeartbeats 8000000 in
theorem flows_any (g : MGrid) (A1 A2 A3 : Option Addr) (c1 c2 c3 : Nat) (A : Option Addr) (cap : Nat) (F : List MFault) (Aw : Option Addr) (wc : Nat) (want : List Int) (w : World) (h : GridA w w.heap.size g A1 A2 A3) (hf : FaultsA w w.heap.size A F) (_hcap : F.length ≤ cap) (hw : IntsA w w.heap.size Aw want) :
    Calls Try.prog 5 #[.agg (caseC g A1 A2 A3 c1 c2 c3 A cap F Aw wc want)] w fun e w' => e = .returned (.bool true) ∧ Below w.heap.size w w' := by
  obtain ⟨w1, hw1⟩ : ∃ w1, w.alloc (.cells #[.int .i64 g.nodes, .slice A1 g.lines.length c1, .slice A2 g.srcs.length c2, .slice A3 g.users.length c3, .slice A F.length cap, .slice Aw want.length wc] 30) = w1 := ⟨_, rfl⟩
  have hb1 : Below w.heap.size w w1 := by rw [← hw1]; exact (Below.refl _ _).alloc (Nat.le_refl _) _
  have hs1 : w1.heap.size = w.heap.size + 1 := by rw [← hw1]; simp
  have hx1 : w1.heap[w.heap.size]? = some (.cells #[.int .i64 g.nodes, .slice A1 g.lines.length c1, .slice A2 g.srcs.length c2, .slice A3 g.users.length c3, .slice A F.length cap, .slice Aw want.length wc] 30 (0, 0)) := by rw [← hw1]; exact heap_alloc_new w _
  have HX : Hid (∀ W, Below w1.heap.size w1 W → Below w.heap.size w W ∧ W.cell? ⟨w.heap.size, 0, none⟩ = some (.int .i64 g.nodes) ∧ W.cell? ⟨w.heap.size, 1, none⟩ = some (.slice A1 g.lines.length c1) ∧ W.cell? ⟨w.heap.size, 2, none⟩ = some (.slice A2 g.srcs.length c2) ∧ W.cell? ⟨w.heap.size, 3, none⟩ = some (.slice A3 g.users.length c3) ∧ W.cell? ⟨w.heap.size, 4, none⟩ = some (.slice A F.length cap) ∧ W.cell? ⟨w.heap.size, 5, none⟩ = some (.slice Aw want.length wc)) := fun W hW => by
    have h1 := (hW.block w.heap.size (by omega)).trans hx1
    exact ⟨hb1.trans (hW.mono (by omega)), cell_of_row W _ 0 _ _ _ h1, cell_of_row W _ 1 _ _ _ h1, cell_of_row W _ 2 _ _ _ h1, cell_of_row W _ 3 _ _ _ h1, cell_of_row W _ 4 _ _ _ h1, cell_of_row W _ 5 _ _ _ h1⟩
  have HG : Hid (∀ W, Below w1.heap.size w1 W → GridA W W.heap.size g A1 A2 A3 ∧ FaultsA W W.heap.size A F ∧ IntsA W W.heap.size Aw want) := fun W hW => by
    have hW := (HX.out W hW).1
    exact ⟨(h.keep hW).more hW.size, (hf.keep hW).more hW.size, (hw.below hW (Nat.le_refl _)).more hW.size⟩
  obtain ⟨_, p0, p1, p2, p3, p4, p5⟩ := HX.out w1 (Below.refl _ _)
  obtain ⟨fb, hfb⟩ : ∃ fb, largeB g F want = fb := ⟨_, rfl⟩
  have HLG : Hid (∀ W, Below w1.heap.size w1 W → Calls Try.prog 15 #[.agg #[.int .i64 g.nodes, .slice A1 g.lines.length c1, .slice A2 g.srcs.length c2, .slice A3 g.users.length c3, .slice A F.length cap, .slice Aw want.length wc]] W fun e w' => e = .returned (.bool fb) ∧ Below W.heap.size W w') := fun W hW => large_any g A1 A2 A3 c1 c2 c3 A cap F Aw wc want W (HG.out W hW).1 (HG.out W hW).2.1 (HG.out W hW).2.2 hfb
  have HWK := Lib.hid works_any
  have HB0 : Hid (Below w1.heap.size w1 w1) := Below.refl _ _
  unfold caseC
  cases fb
  · obtain ⟨hfg, hfl, hwl⟩ := large_few hfb
    have H18 : Hid (∀ W, Below w1.heap.size w1 W → Calls Try.prog 18 #[.agg #[.int .i64 g.nodes, .slice A1 g.lines.length c1, .slice A2 g.srcs.length c2, .slice A3 g.users.length c3, .slice A F.length cap, .slice Aw want.length wc]] W fun e w' => ∃ B1 B2 B3 d1 d2 d3, e = .returned (.agg #[.int .i64 g.nodes, .slice B1 g.lines.length d1, .slice B2 g.srcs.length d2, .slice B3 g.users.length d3]) ∧ GridA w' w'.heap.size g B1 B2 B3 ∧ Below W.heap.size W w') := fun W hW => (grid_any g A1 A2 A3 c1 c2 c3 A cap F Aw wc want W (HG.out W hW).1 hfg).mono fun e w' ⟨B1, B2, B3, d1, d2, d3, he, ho, _, hb⟩ => ⟨B1, B2, B3, d1, d2, d3, he, ho.grid (HG.out W hW).1.ls.1 (HG.out W hW).1.ss.1 (HG.out W hW).1.us.1, hb⟩
    have H19 : Hid (∀ W, Below w1.heap.size w1 W → Calls Try.prog 19 #[.agg #[.int .i64 g.nodes, .slice A1 g.lines.length c1, .slice A2 g.srcs.length c2, .slice A3 g.users.length c3, .slice A F.length cap, .slice Aw want.length wc]] W fun e w' => ∃ B d, e = .returned (.slice B F.length d) ∧ F.length ≤ d ∧ FaultsA w' w'.heap.size B F ∧ Below W.heap.size W w') := fun W hW => (faults_any g A1 A2 A3 c1 c2 c3 A cap F Aw wc want W (HG.out W hW).2.1 (by omega)).mono fun e w' ⟨B, d, he, hd, ho, hb⟩ => ⟨B, d, he, hd, ⟨(HG.out W hW).2.1.1, ho.sl⟩, hb⟩
    have H23 : Hid (∀ W, Below w1.heap.size w1 W → Calls Try.prog 23 #[.agg #[.int .i64 g.nodes, .slice A1 g.lines.length c1, .slice A2 g.srcs.length c2, .slice A3 g.users.length c3, .slice A F.length cap, .slice Aw want.length wc]] W fun e w' => ∃ B d, e = .returned (.slice B want.length d) ∧ IntsA w' w'.heap.size B want ∧ Below W.heap.size W w') := fun W hW => (want_any g A1 A2 A3 c1 c2 c3 A cap F Aw wc want W (HG.out W hW).2.2 (by omega)).mono fun e w' ⟨v, he, ho, hb⟩ => by
      obtain ⟨B, d, rfl, _, hi⟩ := ho.reads
      exact ⟨B, d, he, hi, hb⟩
    obtain ⟨E, hE⟩ : ∃ E, checkA g F want = E := ⟨_, rfl⟩
    obtain ⟨sum, hsum⟩ := flow_val g F want
    obtain ⟨cb, hcb⟩ := carries_val g F want
    rw [hE] at hsum hcb
    have H22 : Hid (∀ W B1 B2 B3 d1 d2 d3 Bf df Bw dw, Below w1.heap.size w1 W → GridA W W.heap.size g B1 B2 B3 → FaultsA W W.heap.size Bf F → F.length ≤ df → IntsA W W.heap.size Bw want → Calls Try.prog 22 #[.agg #[.int .i64 g.nodes, .slice B1 g.lines.length d1, .slice B2 g.srcs.length d2, .slice B3 g.users.length d3], .slice Bf F.length df, .slice Bw want.length dw] W fun e w' => e = .returned (.tuple #[.int .i64 sum, .int .i64 E]) ∧ Below W.heap.size W w') := fun W B1 B2 B3 d1 d2 d3 Bf df Bw dw _ hg hff hd hi => (Flow_any g B1 B2 B3 d1 d2 d3 Bf df F Bw dw want W hg hff hd hi).mono fun e w' hp => ⟨hsum _ _ _ hp, hp.1⟩
    have H25 : Hid (∀ W B1 B2 B3 d1 d2 d3 Bf df Bw dw, Below w1.heap.size w1 W → GridA W W.heap.size g B1 B2 B3 → FaultsA W W.heap.size Bf F → F.length ≤ df → IntsA W W.heap.size Bw want → Calls Try.prog 25 #[.agg #[.int .i64 g.nodes, .slice B1 g.lines.length d1, .slice B2 g.srcs.length d2, .slice B3 g.users.length d3], .slice Bf F.length df, .slice Bw want.length dw] W fun e w' => e = .returned (.tuple #[.bool cb, .int .i64 E]) ∧ Below W.heap.size W w') := fun W B1 B2 B3 d1 d2 d3 Bf df Bw dw _ hg hff hd hi => (Carries_any g B1 B2 B3 d1 d2 d3 Bf df F Bw dw want W hg hff hd hi).mono fun e w' hp => ⟨hcb _ _ _ hp, hp.1⟩
    have H24 : Hid (∀ W, Below w1.heap.size w1 W → Calls Try.prog 24 #[.agg #[.int .i64 g.nodes, .slice A1 g.lines.length c1, .slice A2 g.srcs.length c2, .slice A3 g.users.length c3], .slice A F.length cap, .slice Aw want.length wc] W fun e w' => e = .returned (.tuple #[.int .i64 sum, .int .i64 E]) ∧ Below W.heap.size W w') := fun W hW => (rFlow_any g A1 A2 A3 c1 c2 c3 A cap F Aw wc want W (HG.out W hW).1 (HG.out W hW).2.1 (HG.out W hW).2.2).mono fun e w' hp => ⟨hsum _ _ _ hp, hp.1⟩
    have H26 : Hid (∀ W, Below w1.heap.size w1 W → Calls Try.prog 26 #[.agg #[.int .i64 g.nodes, .slice A1 g.lines.length c1, .slice A2 g.srcs.length c2, .slice A3 g.users.length c3], .slice A F.length cap, .slice Aw want.length wc] W fun e w' => e = .returned (.tuple #[.bool cb, .int .i64 E]) ∧ Below W.heap.size W w') := fun W hW => (rCarries_any g A1 A2 A3 c1 c2 c3 A cap F Aw wc want W (HG.out W hW).1 (HG.out W hW).2.1 (HG.out W hW).2.2).mono fun e w' hp => ⟨hcb _ _ _ hp, hp.1⟩
    clear hE hsum hcb
    clear hfb hb1 hx1 h hf hw
    go_enter Try.func5, Try.ntmps5
    go_upto_region 3 with (go_at_call 15; refine (HLG.out _ HB0.out).mono ?_; rintro e w2 ⟨rfl, hb2⟩; have HB2 := Lib.hid hb2; clear hb2 p0 p1 p2 p3 p4 p5)
    obtain ⟨_, p0, p1, p2, p3, p4, p5⟩ := HX.out w2 HB2.out
    have HB2D : Below w1.heap.size w1 w2.drew := HB2.out.drew
    go_region_held3 (fun W => W.cell? ⟨w.heap.size, 0, none⟩ = some (.int .i64 g.nodes) ∧ W.cell? ⟨w.heap.size, 1, none⟩ = some (.slice A1 g.lines.length c1) ∧ W.cell? ⟨w.heap.size, 2, none⟩ = some (.slice A2 g.srcs.length c2) ∧ W.cell? ⟨w.heap.size, 3, none⟩ = some (.slice A3 g.users.length c3) ∧ W.cell? ⟨w.heap.size, 4, none⟩ = some (.slice A F.length cap) ∧ W.cell? ⟨w.heap.size, 5, none⟩ = some (.slice Aw want.length wc)) (first | exact (HX.out _ HB2D).2 | exact (HX.out _ HB3).2 | exact (HX.out _ HB4).2 | exact (HX.out _ HB5).2 | exact (HX.out _ HB6).2 | fail) ((first
      | (go_at_call 18; (with_reducible refine (H18.out _ HB2D).mono ?_); rintro e w3 ⟨B1, B2, B3, d1, d2, d3, rfl, hg3, hb3⟩; have HG3 := Lib.hid hg3; have HB3 : Below w1.heap.size w1 w3 := bel_next HB2D hb3; clear hg3 hb3)
      | (go_at_call 19; (with_reducible refine (H19.out _ HB3).mono ?_); rintro e w4 ⟨Bf, df, rfl, hdf, hf4, hb4⟩; have HG4 := Lib.hid ((HG3.out.keep hb4).more hb4.size); have HF4 := Lib.hid hf4; have HD4 := Lib.hid hdf; have HB4 : Below w1.heap.size w1 w4 := bel_next HB3 hb4; clear hf4 hb4 hdf)
      | (go_at_call 23; (with_reducible refine (H23.out _ HB4).mono ?_); rintro e w5 ⟨Bw, dw, rfl, hi5, hb5⟩; have HG5 := Lib.hid ((HG4.out.keep hb5).more hb5.size); have HF5 := Lib.hid ((HF4.out.keep hb5).more hb5.size); have HI5 := Lib.hid hi5; have HB5 : Below w1.heap.size w1 w5 := bel_next HB4 hb5; clear hi5 hb5)
      | (go_at_call 22; (with_reducible refine (H22.out _ B1 B2 B3 d1 d2 d3 Bf df Bw dw HB5 HG5.out HF5.out HD4.out HI5.out).mono ?_); rintro e w6 ⟨rfl, hb6⟩; have HB6 : Below w1.heap.size w1 w6 := bel_next HB5 hb6; clear hb6)
      | fail))
    clear p0 p1 p2 p3 p4 p5
    obtain ⟨_, p0, p1, p2, p3, p4, p5⟩ := HX.out w6 HB6
    go_upto_region 5 with (go_at_call 24; refine (H24.out _ HB6).mono ?_; rintro e w7 ⟨rfl, hb7⟩; have HB7 : Below w1.heap.size w1 w7 := bel_next HB6 hb7; clear hb7 p0 p1 p2 p3 p4 p5)
    obtain ⟨_, p0, p1, p2, p3, p4, p5⟩ := HX.out w7 HB7
    have HB7D : Below w1.heap.size w1 w7.drew := HB7.drew
    go_region_held3 (fun W => W.cell? ⟨w.heap.size, 0, none⟩ = some (.int .i64 g.nodes) ∧ W.cell? ⟨w.heap.size, 1, none⟩ = some (.slice A1 g.lines.length c1) ∧ W.cell? ⟨w.heap.size, 2, none⟩ = some (.slice A2 g.srcs.length c2) ∧ W.cell? ⟨w.heap.size, 3, none⟩ = some (.slice A3 g.users.length c3) ∧ W.cell? ⟨w.heap.size, 4, none⟩ = some (.slice A F.length cap) ∧ W.cell? ⟨w.heap.size, 5, none⟩ = some (.slice Aw want.length wc)) (first | exact (HX.out _ HB7D).2 | exact (HX.out _ HB8).2 | exact (HX.out _ HB9).2 | exact (HX.out _ HB10).2 | exact (HX.out _ HB11).2 | fail) ((first
      | (go_at_call 18; (with_reducible refine (H18.out _ HB7D).mono ?_); rintro e w8 ⟨B1x, B2x, B3x, d1x, d2x, d3x, rfl, hg8, hb8⟩; have HG8 := Lib.hid hg8; have HB8 : Below w1.heap.size w1 w8 := bel_next HB7D hb8; clear hg8 hb8)
      | (go_at_call 19; (with_reducible refine (H19.out _ HB8).mono ?_); rintro e w9 ⟨Bfx, dfx, rfl, hdf, hf9, hb9⟩; have HG9 := Lib.hid ((HG8.out.keep hb9).more hb9.size); have HF9 := Lib.hid hf9; have HD9 := Lib.hid hdf; have HB9 : Below w1.heap.size w1 w9 := bel_next HB8 hb9; clear hf9 hb9 hdf)
      | (go_at_call 23; (with_reducible refine (H23.out _ HB9).mono ?_); rintro e w10 ⟨Bwx, dwx, rfl, hi10, hb10⟩; have HG10 := Lib.hid ((HG9.out.keep hb10).more hb10.size); have HF10 := Lib.hid ((HF9.out.keep hb10).more hb10.size); have HI10 := Lib.hid hi10; have HB10 : Below w1.heap.size w1 w10 := bel_next HB9 hb10; clear hi10 hb10)
      | (go_at_call 25; (with_reducible refine (H25.out _ B1x B2x B3x d1x d2x d3x Bfx dfx Bwx dwx HB10 HG10.out HF10.out HD9.out HI10.out).mono ?_); rintro e w11 ⟨rfl, hb11⟩; have HB11 : Below w1.heap.size w1 w11 := bel_next HB10 hb11; clear hb11)
      | fail))
    clear p0 p1 p2 p3 p4 p5
    obtain ⟨_, p0, p1, p2, p3, p4, p5⟩ := HX.out w11 HB11
    go_wp2_with (first
      | (go_at_call 26; refine (H26.out _ HB11).mono ?_; rintro e w12 ⟨rfl, hb12⟩; have HB12 : Below w1.heap.size w1 w12 := bel_next HB11 hb12; clear hb12)
      | (go_at_call 16; refine (HWK.out _).mono ?_; rintro e w13 ⟨rfl, hb13⟩; have HB13 : Below w1.heap.size w1 w13 := bel_next HB12 hb13; clear hb13)
      | fail)
    go_ret
    exact ⟨rfl, (HX.out _ HB13).1⟩
  · clear hfb hb1 hx1 h hf hw
    go_enter Try.func5, Try.ntmps5
    go_wp2_with (first
      | (go_at_call 15; refine (HLG.out _ HB0.out).mono ?_; rintro e w2 ⟨rfl, hb2⟩; have HB2 := Lib.hid hb2; clear hb2)
      | (go_at_call 16; refine (HWK.out _).mono ?_; rintro e w3 ⟨rfl, hb3⟩; have HB3 : Hid (Below w1.heap.size w1 w3) := HB2.out.trans (hb3.mono HB2.out.size); clear hb3)
      | fail)
    go_ret
    exact ⟨rfl, (HX.out _ HB3.out).1⟩
end Go.Proofs.Ytegclodchhcbaaa
