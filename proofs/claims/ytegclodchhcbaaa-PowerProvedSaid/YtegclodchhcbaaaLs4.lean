/- Law: what is carried is proved by its cut. Printed by gen_law8.py. -/
import Derived.Test.YtegclodchhcbaaaLs3
import Derived.Test.YtegclodchhcbaaaPp
import Derived.Test.YtegclodchhcbaaaLm
namespace Go.Proofs.Ytegclodchhcbaaa
open Go.RowKit

theorem proved_val (g : MGrid) (F : List MFault) (want : List Int) : ∃ sum l, (∀ w e w', FlowP g F want w e w' → e = .returned (.tuple #[.int .i64 sum, .int .i64 (checkA g F want)]) ∧ (checkA g F want = 0 → ∃ n R, GridOk g n ∧ MostG g F want n sum R ∧ l = cutL R n 22)) ∧
    ∀ w e w', CutP g F want w e w' → ∃ A c, e = .returned (.tuple #[.slice A l.length c, .int .i64 sum, .int .i64 (checkA g F want)]) ∧ IntsA w' w'.heap.size A l ∧ Below w.heap.size w w' := by
  by_cases hE : checkA g F want = 0
  · by_cases hx : ∃ n sum R, GridOk g n ∧ MostG g F want n sum R
    · obtain ⟨n, sum, R, hg, hm⟩ := hx
      refine ⟨sum, cutL R n 22, fun w e w' h => ?_, fun w e w' h => ?_⟩
      · obtain ⟨_, s', he, _, hok⟩ := h
        obtain ⟨n', R', hg', hm'⟩ := hok hE
        obtain rfl := grid_n hg hg'
        exact ⟨by rw [he, (hm.same hm').1], fun _ => ⟨n, R, hg, hm, rfl⟩⟩
      · obtain ⟨hb, v, s', he, _, hok⟩ := h
        obtain ⟨n', R', hg', hm', ho⟩ := hok hE
        obtain rfl := grid_n hg hg'
        obtain ⟨A, c, rfl, _, hi⟩ := ho.reads
        rw [← cutL_congr (hm.same hm').2] at he hi
        exact ⟨A, c, by rw [he, (hm.same hm').1], hi, hb⟩
    · refine ⟨0, [], fun w e w' h => ?_, fun w e w' h => ?_⟩
      · obtain ⟨_, s', he, _, hok⟩ := h
        obtain ⟨n', R', hg', hm'⟩ := hok hE
        exact absurd ⟨n', s', R', hg', hm'⟩ hx
      · obtain ⟨_, v, s', he, _, hok⟩ := h
        obtain ⟨n', R', hg', hm', _⟩ := hok hE
        exact absurd ⟨n', s', R', hg', hm'⟩ hx
  · refine ⟨0, [], fun w e w' h => ?_, fun w e w' h => ?_⟩
    · obtain ⟨_, s', he, h0, _⟩ := h
      exact ⟨by rw [he, h0 hE], fun h => absurd h hE⟩
    · obtain ⟨hb, v, s', he, h0, _⟩ := h
      obtain ⟨rfl, rfl⟩ := h0 hE
      exact ⟨none, 0, he, ⟨by simp, fun h => by simp at h⟩, hb⟩
theorem supS_bd {g : MGrid} {n : Nat} (hg : GridOk g n) : ∀ k : Nat, k ≤ g.srcs.length → 0 ≤ supS g k ∧ supS g k ≤ k * 100000
  | 0, _ => by simp [supS, sumN]
  | k + 1, hk => by
    have ih := supS_bd hg k (by omega)
    have h1 := (hg.src _ (getD_in (show k < g.srcs.length by omega) dSrc)).2
    unfold supS at ih ⊢
    rw [sumN]
    push_cast
    omega
set_option maxRecDepth 100000 in
set_option maxHeartbeats 8000000 in
theorem proved_any (g : MGrid) (A1 A2 A3 : Option Addr) (c1 c2 c3 : Nat) (A : Option Addr) (cap : Nat) (F : List MFault) (Aw : Option Addr) (wc : Nat) (want : List Int) (An : Option Addr) (nc : Nat) (nodes : List Int) (w : World) (h : GridA w w.heap.size g A1 A2 A3) (hf : FaultsA w w.heap.size A F) (_hcap : F.length ≤ cap) (hw : IntsA w w.heap.size Aw want) (hn : IntsA w w.heap.size An nodes) :
    Calls Try.prog 8 #[.agg (caseC g A1 A2 A3 c1 c2 c3 A cap F Aw wc want), .slice An nodes.length nc] w fun e w' => e = .returned (.bool true) ∧ Below w.heap.size w w' := by
  obtain ⟨w1, hw1⟩ : ∃ w1, w.alloc (.cells #[.int .i64 g.nodes, .slice A1 g.lines.length c1, .slice A2 g.srcs.length c2, .slice A3 g.users.length c3, .slice A F.length cap, .slice Aw want.length wc] 30) = w1 := ⟨_, rfl⟩
  have hb1 : Below w.heap.size w w1 := by rw [← hw1]; exact (Below.refl _ _).alloc (Nat.le_refl _) _
  have hs1 : w1.heap.size = w.heap.size + 1 := by rw [← hw1]; simp
  have hx1 : w1.heap[w.heap.size]? = some (.cells #[.int .i64 g.nodes, .slice A1 g.lines.length c1, .slice A2 g.srcs.length c2, .slice A3 g.users.length c3, .slice A F.length cap, .slice Aw want.length wc] 30 (0, 0)) := by rw [← hw1]; exact heap_alloc_new w _
  have HX : Hid (∀ W, Below w1.heap.size w1 W → Below w.heap.size w W ∧ W.cell? ⟨w.heap.size, 0, none⟩ = some (.int .i64 g.nodes) ∧ W.cell? ⟨w.heap.size, 1, none⟩ = some (.slice A1 g.lines.length c1) ∧ W.cell? ⟨w.heap.size, 2, none⟩ = some (.slice A2 g.srcs.length c2) ∧ W.cell? ⟨w.heap.size, 3, none⟩ = some (.slice A3 g.users.length c3) ∧ W.cell? ⟨w.heap.size, 4, none⟩ = some (.slice A F.length cap) ∧ W.cell? ⟨w.heap.size, 5, none⟩ = some (.slice Aw want.length wc)) := fun W hW => by
    have h1 := (hW.block w.heap.size (by omega)).trans hx1
    exact ⟨hb1.trans (hW.mono (by omega)), cell_of_row W _ 0 _ _ _ h1, cell_of_row W _ 1 _ _ _ h1, cell_of_row W _ 2 _ _ _ h1, cell_of_row W _ 3 _ _ _ h1, cell_of_row W _ 4 _ _ _ h1, cell_of_row W _ 5 _ _ _ h1⟩
  have HG : Hid (∀ W, Below w1.heap.size w1 W → GridA W W.heap.size g A1 A2 A3 ∧ FaultsA W W.heap.size A F ∧ IntsA W W.heap.size Aw want) := fun W hW => by
    have hW := (HX.out W hW).1
    exact ⟨(h.keep hW).more hW.size, (hf.keep hW).more hW.size, (hw.below hW (Nat.le_refl _)).more hW.size⟩
  obtain ⟨_, p0, p1, p2, p3, p4, p5⟩ := HX.out w1 (Below.refl _ _)
  obtain ⟨fb, hfb⟩ : ∃ fb, largeB g F want = fb := ⟨_, rfl⟩
  have HLG : Hid (∀ W, Below w1.heap.size w1 W → Calls Try.prog 15 #[.agg #[.int .i64 g.nodes, .slice A1 g.lines.length c1, .slice A2 g.srcs.length c2, .slice A3 g.users.length c3, .slice A F.length cap, .slice Aw want.length wc]] W fun e w' => e = .returned (.bool fb) ∧ Below W.heap.size W w') := fun W hW => large_any g A1 A2 A3 c1 c2 c3 A cap F Aw wc want W (HG.out W hW).1 (HG.out W hW).2.1 (HG.out W hW).2.2 hfb
  have HNA : Hid (∀ W, Below w1.heap.size w1 W → IntsA W W.heap.size An nodes) := fun W hW => by
    have hW := (HX.out W hW).1
    exact (hn.below hW (Nat.le_refl _)).more hW.size
  have hnl : nodes.length ≤ maxLen := hn.1
  unfold maxLen at hnl
  have HWK := Lib.hid works_any
  have HB0 : Hid (Below w1.heap.size w1 w1) := Below.refl _ _
  unfold caseC
  cases fb
  · obtain ⟨hfg, hfl, hwl⟩ := large_few hfb
    have H18 : Hid (∀ W, Below w1.heap.size w1 W → Calls Try.prog 18 #[.agg #[.int .i64 g.nodes, .slice A1 g.lines.length c1, .slice A2 g.srcs.length c2, .slice A3 g.users.length c3, .slice A F.length cap, .slice Aw want.length wc]] W fun e w' => ∃ B1 B2 B3 d1 d2 d3, e = .returned (.agg #[.int .i64 g.nodes, .slice B1 g.lines.length d1, .slice B2 g.srcs.length d2, .slice B3 g.users.length d3]) ∧ GridA w' w'.heap.size g B1 B2 B3 ∧ Below W.heap.size W w') := fun W hW => (grid_any g A1 A2 A3 c1 c2 c3 A cap F Aw wc want W (HG.out W hW).1 hfg).mono fun e w' ⟨B1, B2, B3, d1, d2, d3, he, ho, _, hb⟩ => ⟨B1, B2, B3, d1, d2, d3, he, ho.grid (HG.out W hW).1.ls.1 (HG.out W hW).1.ss.1 (HG.out W hW).1.us.1, hb⟩
    have H19 : Hid (∀ W, Below w1.heap.size w1 W → Calls Try.prog 19 #[.agg #[.int .i64 g.nodes, .slice A1 g.lines.length c1, .slice A2 g.srcs.length c2, .slice A3 g.users.length c3, .slice A F.length cap, .slice Aw want.length wc]] W fun e w' => ∃ B d, e = .returned (.slice B F.length d) ∧ F.length ≤ d ∧ FaultsA w' w'.heap.size B F ∧ Below W.heap.size W w') := fun W hW => (faults_any g A1 A2 A3 c1 c2 c3 A cap F Aw wc want W (HG.out W hW).2.1 (by omega)).mono fun e w' ⟨B, d, he, hd, ho, hb⟩ => ⟨B, d, he, hd, ⟨(HG.out W hW).2.1.1, ho.sl⟩, hb⟩
    have H23 : Hid (∀ W, Below w1.heap.size w1 W → Calls Try.prog 23 #[.agg #[.int .i64 g.nodes, .slice A1 g.lines.length c1, .slice A2 g.srcs.length c2, .slice A3 g.users.length c3, .slice A F.length cap, .slice Aw want.length wc]] W fun e w' => ∃ B d, e = .returned (.slice B want.length d) ∧ IntsA w' w'.heap.size B want ∧ Below W.heap.size W w') := fun W hW => (want_any g A1 A2 A3 c1 c2 c3 A cap F Aw wc want W (HG.out W hW).2.2 (by omega)).mono fun e w' ⟨v, he, ho, hb⟩ => by
      obtain ⟨B, d, rfl, _, hi⟩ := ho.reads
      exact ⟨B, d, he, hi, hb⟩
    obtain ⟨E, hE⟩ : ∃ E, checkA g F want = E := ⟨_, rfl⟩
    obtain ⟨sum, l, hsum, hcut⟩ := proved_val g F want
    rw [hE] at hsum hcut
    have H22 : Hid (∀ W B1 B2 B3 d1 d2 d3 Bf df Bw dw, Below w1.heap.size w1 W → GridA W W.heap.size g B1 B2 B3 → FaultsA W W.heap.size Bf F → F.length ≤ df → IntsA W W.heap.size Bw want → Calls Try.prog 22 #[.agg #[.int .i64 g.nodes, .slice B1 g.lines.length d1, .slice B2 g.srcs.length d2, .slice B3 g.users.length d3], .slice Bf F.length df, .slice Bw want.length dw] W fun e w' => e = .returned (.tuple #[.int .i64 sum, .int .i64 E]) ∧ (E = 0 → ∃ n R, GridOk g n ∧ MostG g F want n sum R ∧ l = cutL R n 22) ∧ Below W.heap.size W w') := fun W B1 B2 B3 d1 d2 d3 Bf df Bw dw _ hg hff hd hi => (Flow_any g B1 B2 B3 d1 d2 d3 Bf df F Bw dw want W hg hff hd hi).mono fun e w' hp => ⟨(hsum _ _ _ hp).1, (hsum _ _ _ hp).2, hp.1⟩
    have H28 : Hid (∀ W B1 B2 B3 d1 d2 d3 Bf df Bw dw, Below w1.heap.size w1 W → GridA W W.heap.size g B1 B2 B3 → FaultsA W W.heap.size Bf F → F.length ≤ df → IntsA W W.heap.size Bw want → Calls Try.prog 28 #[.agg #[.int .i64 g.nodes, .slice B1 g.lines.length d1, .slice B2 g.srcs.length d2, .slice B3 g.users.length d3], .slice Bf F.length df, .slice Bw want.length dw] W fun e w' => ∃ A c, e = .returned (.tuple #[.slice A l.length c, .int .i64 sum, .int .i64 E]) ∧ IntsA w' w'.heap.size A l ∧ Below W.heap.size W w') := fun W B1 B2 B3 d1 d2 d3 Bf df Bw dw _ hg hff hd hi => (Cut_any g B1 B2 B3 d1 d2 d3 Bf df F Bw dw want W hg hff hd hi).mono fun e w' hp => hcut _ _ _ hp
    have H24 : Hid (∀ W, Below w1.heap.size w1 W → Calls Try.prog 24 #[.agg #[.int .i64 g.nodes, .slice A1 g.lines.length c1, .slice A2 g.srcs.length c2, .slice A3 g.users.length c3], .slice A F.length cap, .slice Aw want.length wc] W fun e w' => e = .returned (.tuple #[.int .i64 sum, .int .i64 E]) ∧ Below W.heap.size W w') := fun W hW => (rFlow_any g A1 A2 A3 c1 c2 c3 A cap F Aw wc want W (HG.out W hW).1 (HG.out W hW).2.1 (HG.out W hW).2.2).mono fun e w' hp => ⟨(hsum _ _ _ hp).1, hp.1⟩
    have HEE := Lib.hid hE
    clear hE hsum hcut
    by_cases hnn : 30 < nodes.length
    · clear hfb hb1 hx1 h hf hw hn
      go_enter Try.func8, Try.ntmps8
      go_wp2_with (first
        | (go_at_call 15; refine (HLG.out _ HB0.out).mono ?_; rintro e w2 ⟨rfl, hb2⟩; have HB2 := Lib.hid hb2; clear hb2)
        | (go_at_call 16; refine (HWK.out _).mono ?_; rintro e w3 ⟨rfl, hb3⟩; have HB3 : Hid (Below w1.heap.size w1 w3) := HB2.out.trans (hb3.mono HB2.out.size); clear hb3)
        | fail)
      go_ret
      exact ⟨rfl, (HX.out _ HB3.out).1⟩
    clear hn
    clear hfb hb1 hx1 h hf hw
    go_enter Try.func8, Try.ntmps8
    go_upto_region 3 with (go_at_call 15; refine (HLG.out _ HB0.out).mono ?_; rintro e w2 ⟨rfl, hb2⟩; have HB2 := Lib.hid hb2; clear hb2 p0 p1 p2 p3 p4 p5)
    obtain ⟨_, p0, p1, p2, p3, p4, p5⟩ := HX.out w2 HB2.out
    have HB2D : Below w1.heap.size w1 w2.drew := HB2.out.drew
    go_region_held3 (fun W => W.cell? ⟨w.heap.size, 0, none⟩ = some (.int .i64 g.nodes) ∧ W.cell? ⟨w.heap.size, 1, none⟩ = some (.slice A1 g.lines.length c1) ∧ W.cell? ⟨w.heap.size, 2, none⟩ = some (.slice A2 g.srcs.length c2) ∧ W.cell? ⟨w.heap.size, 3, none⟩ = some (.slice A3 g.users.length c3) ∧ W.cell? ⟨w.heap.size, 4, none⟩ = some (.slice A F.length cap) ∧ W.cell? ⟨w.heap.size, 5, none⟩ = some (.slice Aw want.length wc)) (first | exact (HX.out _ HB2D).2 | exact (HX.out _ HB3).2 | exact (HX.out _ HB4).2 | exact (HX.out _ HB5).2 | exact (HX.out _ HB6).2 | fail) ((first
      | (go_at_call 18; (with_reducible refine (H18.out _ HB2D).mono ?_); rintro e w3 ⟨B1, B2, B3, d1, d2, d3, rfl, hg3, hb3⟩; have HG3 := Lib.hid hg3; have HB3 : Below w1.heap.size w1 w3 := bel_next HB2D hb3; clear hg3 hb3)
      | (go_at_call 19; (with_reducible refine (H19.out _ HB3).mono ?_); rintro e w4 ⟨Bf, df, rfl, hdf, hf4, hb4⟩; have HG4 := Lib.hid ((HG3.out.keep hb4).more hb4.size); have HF4 := Lib.hid hf4; have HD4 := Lib.hid hdf; have HB4 : Below w1.heap.size w1 w4 := bel_next HB3 hb4; clear hf4 hb4 hdf)
      | (go_at_call 23; (with_reducible refine (H23.out _ HB4).mono ?_); rintro e w5 ⟨Bw, dw, rfl, hi5, hb5⟩; have HG5 := Lib.hid ((HG4.out.keep hb5).more hb5.size); have HF5 := Lib.hid ((HF4.out.keep hb5).more hb5.size); have HI5 := Lib.hid hi5; have HB5 : Below w1.heap.size w1 w5 := bel_next HB4 hb5; clear hi5 hb5)
      | (go_at_call 22; (with_reducible refine (H22.out _ B1 B2 B3 d1 d2 d3 Bf df Bw dw HB5 HG5.out HF5.out HD4.out HI5.out).mono ?_); rintro e w6 ⟨rfl, hok, hb6⟩; have HOK := Lib.hid hok; clear hok; have HB6 : Below w1.heap.size w1 w6 := bel_next HB5 hb6; clear hb6)
      | fail))
    clear p0 p1 p2 p3 p4 p5
    obtain ⟨_, p0, p1, p2, p3, p4, p5⟩ := HX.out w6 HB6
    go_upto_region 4 with fail
    have HB6D : Below w1.heap.size w1 w6.drew := HB6.drew
    go_region_held3 (fun W => W.cell? ⟨w.heap.size, 0, none⟩ = some (.int .i64 g.nodes) ∧ W.cell? ⟨w.heap.size, 1, none⟩ = some (.slice A1 g.lines.length c1) ∧ W.cell? ⟨w.heap.size, 2, none⟩ = some (.slice A2 g.srcs.length c2) ∧ W.cell? ⟨w.heap.size, 3, none⟩ = some (.slice A3 g.users.length c3) ∧ W.cell? ⟨w.heap.size, 4, none⟩ = some (.slice A F.length cap) ∧ W.cell? ⟨w.heap.size, 5, none⟩ = some (.slice Aw want.length wc)) (first | exact (HX.out _ HB6D).2 | exact (HX.out _ HB7).2 | exact (HX.out _ HB8).2 | exact (HX.out _ HB9).2 | exact (HX.out _ HB10).2 | fail) ((first
      | (go_at_call 18; (with_reducible refine (H18.out _ HB6D).mono ?_); rintro e w7 ⟨B1x, B2x, B3x, d1x, d2x, d3x, rfl, hg7, hb7⟩; have HG7 := Lib.hid hg7; have HB7 : Below w1.heap.size w1 w7 := bel_next HB6D hb7; clear hg7 hb7)
      | (go_at_call 19; (with_reducible refine (H19.out _ HB7).mono ?_); rintro e w8 ⟨Bfx, dfx, rfl, hdf, hf8, hb8⟩; have HG8 := Lib.hid ((HG7.out.keep hb8).more hb8.size); have HF8 := Lib.hid hf8; have HD8 := Lib.hid hdf; have HB8 : Below w1.heap.size w1 w8 := bel_next HB7 hb8; clear hf8 hb8 hdf)
      | (go_at_call 23; (with_reducible refine (H23.out _ HB8).mono ?_); rintro e w9 ⟨Bwx, dwx, rfl, hi9, hb9⟩; have HG9 := Lib.hid ((HG8.out.keep hb9).more hb9.size); have HF9 := Lib.hid ((HF8.out.keep hb9).more hb9.size); have HI9 := Lib.hid hi9; have HB9 : Below w1.heap.size w1 w9 := bel_next HB8 hb9; clear hi9 hb9)
      | (go_at_call 28; (with_reducible refine (H28.out _ B1x B2x B3x d1x d2x d3x Bfx dfx Bwx dwx HB9 HG9.out HF9.out HD8.out HI9.out).mono ?_); rintro e w10 ⟨Ac, cc, rfl, hi10, hb10⟩; have HIC := Lib.hid hi10; clear hi10; have HB10 : Below w1.heap.size w1 w10 := bel_next HB9 hb10; clear hb10)
      | fail))
    clear p0 p1 p2 p3 p4 p5
    obtain ⟨_, p0, p1, p2, p3, p4, p5⟩ := HX.out w10 HB10
    go_upto_region 6 with (go_at_call 24; refine (H24.out _ HB10).mono ?_; rintro e w11 ⟨rfl, hb11⟩; have HIC2 := Lib.hid ((HIC.out.below hb11 (Nat.le_refl _)).more hb11.size); have HB11 : Below w1.heap.size w1 w11 := bel_next HB10 hb11; clear hb11 p0 p1 p2 p3 p4 p5)
    obtain ⟨_, p0, p1, p2, p3, p4, p5⟩ := HX.out w11 HB11
    by_cases hz : E = 0
    · subst hz
      obtain ⟨n, R, hgo, hmo, hl⟩ := HOK.out (by simp)
      obtain ⟨hwo, hwl⟩ := checkW_ok (checkA_ok HEE.out).2.2
      have hnu := hgo.nu
      have hcset : nodesB g F l = true := by rw [hl]; exact nodesB_cut hgo (fun x hx hr => hmo.not_lost hgo hx hr) 22
      have hcsum : cutG g F want (fun x => hasI l x) = sum := by rw [hl]; exact hmo.cut_sum hgo hwo
      obtain ⟨sb, hsb⟩ : ∃ sb, nodesB g F nodes = sb := ⟨_, rfl⟩
      have H31 : Hid (∀ W, Below w1.heap.size w1 W → (IntsA W W.heap.size Ac l → Calls Try.prog 31 #[.agg #[.int .i64 g.nodes, .slice A1 g.lines.length c1, .slice A2 g.srcs.length c2, .slice A3 g.users.length c3, .slice A F.length cap, .slice Aw want.length wc], .slice Ac l.length cc] W fun e w' => e = .returned (.bool true) ∧ Below W.heap.size W w') ∧ Calls Try.prog 31 #[.agg #[.int .i64 g.nodes, .slice A1 g.lines.length c1, .slice A2 g.srcs.length c2, .slice A3 g.users.length c3, .slice A F.length cap, .slice Aw want.length wc], .slice An nodes.length nc] W fun e w' => e = .returned (.bool sb) ∧ Below W.heap.size W w') := fun W hW => ⟨fun hi => set_any g A1 A2 A3 c1 c2 c3 A cap F Aw wc want Ac cc l W (HG.out W hW).2.1 hi hcset, set_any g A1 A2 A3 c1 c2 c3 A cap F Aw wc want An nc nodes W (HG.out W hW).2.1 (HNA.out W hW) hsb⟩
      obtain ⟨cn, hcn⟩ : ∃ cn, cutG g F want (fun x => hasI nodes x) = cn := ⟨_, rfl⟩
      have H32 : Hid (∀ W, Below w1.heap.size w1 W → (IntsA W W.heap.size Ac l → Calls Try.prog 32 #[.agg #[.int .i64 g.nodes, .slice A1 g.lines.length c1, .slice A2 g.srcs.length c2, .slice A3 g.users.length c3], .slice A F.length cap, .slice Aw want.length wc, .slice Ac l.length cc] W fun e w' => e = .returned (.int .i64 sum) ∧ Below W.heap.size W w') ∧ (sb = true → Calls Try.prog 32 #[.agg #[.int .i64 g.nodes, .slice A1 g.lines.length c1, .slice A2 g.srcs.length c2, .slice A3 g.users.length c3], .slice A F.length cap, .slice Aw want.length wc, .slice An nodes.length nc] W fun e w' => e = .returned (.int .i64 cn) ∧ Below W.heap.size W w')) := fun W hW => ⟨fun hi => by
          have := limit_any g A1 A2 A3 c1 c2 c3 A cap F Aw wc want Ac cc l W (HG.out W hW).1 (HG.out W hW).2.1 (HG.out W hW).2.2 hi hgo hwo (by omega) (nodesB_in hgo hcset)
          rw [hcsum] at this
          exact this, fun hs => by
          have := limit_any g A1 A2 A3 c1 c2 c3 A cap F Aw wc want An nc nodes W (HG.out W hW).1 (HG.out W hW).2.1 (HG.out W hW).2.2 (HNA.out W hW) hgo hwo (by omega) (nodesB_in hgo (hsb.trans hs))
          rw [hcn] at this
          exact this⟩
      have hle : sum ≤ cn := by rw [← hcn]; exact hmo.le _
      have HND : Hid (∀ k : Nat, k ≤ want.length → 0 ≤ needS g want k ∧ needS g want k ≤ k * 100000) := needS_bd hgo hwo
      have HSD : Hid (∀ k : Nat, k ≤ g.srcs.length → 0 ≤ supS g k ∧ supS g k ≤ k * 100000) := supS_bd hgo
      have HLW : Hid (sum ≤ needS g want want.length) := by
        show _ ≤ _
        rw [show needS g want want.length = powS g want from sumN_list (fun x => (userAt g x).power) want]
        exact hmo.le_want hgo
      have HLS : Hid (sum ≤ supS g g.srcs.length) := hmo.le_sup hgo
      have HGO := Lib.hid hgo
      have HWO := Lib.hid hwo
      clear hl hcset hcsum hsb hcn hmo hgo hwo HOK H22 H24 H28 H18 H19 H23
      have HR : True := trivial
      go_upto_region 12 with (first
        | (go_at_call 31; refine ((H31.out _ HB11).1 HIC2.out).mono ?_; rintro e w12 ⟨rfl, hb12⟩; have HIC3 := Lib.hid ((HIC2.out.below hb12 (Nat.le_refl _)).more hb12.size); have HB12 : Below w1.heap.size w1 w12 := bel_next HB11 hb12; clear hb12 p0 p1 p2 p3 p4 p5; obtain ⟨_, p0, p1, p2, p3, p4, p5⟩ := HX.out w12 HB12)
        | (go_at_call 32; refine ((H32.out _ HB12).1 HIC3.out).mono ?_; rintro e w13 ⟨rfl, hb13⟩; have HB13 : Below w1.heap.size w1 w13 := bel_next HB12 hb13; clear hb13 p0 p1 p2 p3 p4 p5)
        | fail)
      obtain ⟨_, p0, p1, p2, p3, p4, p5⟩ := HX.out w13 HB13
      go_cut [109] (fun v109 wx => v109 = .bool false ∧ Hid (Below w1.heap.size w1 wx))
      case first =>
        rcases sb with _ | _
        · go_wp2_with (first
            | (go_at_call 31; refine (H31.out _ HB13).2.mono ?_; rintro e w14 ⟨rfl, hb14⟩; have HB14 := Lib.hid (bel_next HB13 hb14); clear hb14 p0 p1 p2 p3 p4 p5)
            | fail)
          go_meet
          exact ⟨rfl, HB14⟩
        · go_wp2_with (first
            | (go_at_call 31; refine (H31.out _ HB13).2.mono ?_; rintro e w14 ⟨rfl, hb14⟩; have HB14 := Lib.hid (bel_next HB13 hb14); clear hb14 p0 p1 p2 p3 p4 p5; obtain ⟨_, p0, p1, p2, p3, p4, p5⟩ := HX.out w14 HB14.out)
            | (go_at_call 32; refine ((H32.out _ HB14.out).2 (by simp)).mono ?_; rintro e w15 ⟨rfl, hb15⟩; have HB15 := Lib.hid (bel_next HB14.out hb15); clear hb15 p0 p1 p2 p3 p4 p5)
            | fail)
          go_meet
          exact ⟨by rw [decide_eq_false (show ¬ cn < sum by omega)], HB15⟩
      case rest =>
        obtain ⟨rfl, hcut⟩ := hcut
        rename World => wx
        obtain ⟨_, p0, p1, p2, p3, p4, p5⟩ := HX.out wx hcut.out
        clear H31 H32
        go_wp2_with fail
        go_loopw [14, 12] (fun vi vs wr => ∃ k : Nat, k ≤ want.length ∧ vi = .int .i64 k ∧ vs = .int .i64 (needS g want k) ∧ Hid (Below w1.heap.size w1 wr)) (fun vi _ _ => want.length - (intOf vi).toNat)
        case atStart => exact ⟨0, Nat.zero_le _, rfl, rfl, hcut⟩
        case round =>
          clear p0 p1 p2 p3 p4 p5
          obtain ⟨k, hk, rfl, rfl, HB⟩ := hrel
          rename World => wr
          obtain ⟨_, p0, p1, p2, p3, p4, p5⟩ := HX.out wr HB.out
          by_cases hlt : k < want.length
          · obtain ⟨b, off, hA0, hb0, ax⟩ := (HG.out wr HB.out).2.2.at_ hlt
            subst hA0
            have hxo := HWO.out _ (getD_mem_of hlt 0)
            obtain ⟨x, hx⟩ : ∃ x : Nat, want.getD k 0 = (x : Int) := ⟨(want.getD k 0).toNat, by omega⟩
            have hxl : x < g.users.length := by omega
            obtain ⟨f, lb, lo, hfe, hA, hlb, f0, f1, f2⟩ := (HG.out wr HB.out).1.us.at_ hxl
            subst hA
            have hfm : f ∈ g.users := by rw [← hfe]; exact getD_mem_of hxl dUser
            obtain ⟨hfa, hf1, hf2⟩ := HGO.out.user f hfm
            rw [hx] at ax
            have hnd : needS g want (k + 1) = needS g want k + f.power := by show sumN _ k + (g.users.getD (want.getD k 0).toNat dUser).power = _; rw [hx, Int.toNat_natCast, hfe]; rfl
            have hnb := HND.out k hk
            have HNS := Lib.hid hnd
            have HLT := Lib.hid hlt
            clear hfe hfm hfa hnd hx hxo
            generalize needS g want k = nd at *
            have e1 : IntKind.i64.wrap (nd + f.power) = nd + f.power := IntWalk.i64_in _ (by omega)
            go_upto_region 18 with fail
            go_quiet (fail)
            have HBZ := Lib.hid (bdrw HB.out nq)
            generalize wr.drewN nq = w5 at *
            clear p0 p1 p2 p3 p4 p5 ax f0 f1 f2
            go_wp2_with fail
            go_roundw
            case rel => exact ⟨k + 1, HLT.out, by go_num, by rw [HNS.out], HBZ⟩
            case measure => simp [intOf]; have := HLT.out; omega
          · obtain rfl : want.length = k := by omega
            go_wp2_with fail
            have hlw := HLW.out
            have HB1 := Lib.hid HB.out
            generalize needS g want want.length = nd at *
            go_loopw [15, 13] (fun vi vs wr => ∃ k : Nat, k ≤ g.srcs.length ∧ vi = .int .i64 k ∧ vs = .int .i64 (supS g k) ∧ Hid (Below w1.heap.size w1 wr)) (fun vi _ _ => g.srcs.length - (intOf vi).toNat)
            case atStart => exact ⟨0, Nat.zero_le _, rfl, rfl, HB1⟩
            case round =>
              clear p0 p1 p2 p3 p4 p5
              obtain ⟨k, hk, rfl, rfl, HB⟩ := hrel
              rename World => wz
              obtain ⟨_, p0, p1, p2, p3, p4, p5⟩ := HX.out wz HB.out
              have hsl := (HG.out wz HB.out).1.ss.1
              unfold maxLen at hsl
              by_cases hlt : k < g.srcs.length
              · obtain ⟨f, lb, lo, hfe, hA, hlb, f0, f1⟩ := (HG.out wz HB.out).1.ss.at_ hlt
                subst hA
                have hfm : f ∈ g.srcs := by rw [← hfe]; exact getD_mem_of hlt dSrc
                obtain ⟨hfa, hf1, hf2⟩ := HGO.out.src f hfm
                have hnd : supS g (k + 1) = supS g k + f.power := by show sumN _ k + (g.srcs.getD k dSrc).power = _; rw [hfe]; rfl
                have hnb := HSD.out k hk
                have HNS := Lib.hid hnd
                have HLT := Lib.hid hlt
                have hns := HGO.out.ns
                clear hfe hfm hfa hnd
                generalize supS g k = sd at *
                have e1 : IntKind.i64.wrap (sd + f.power) = sd + f.power := IntWalk.i64_in _ (by omega)
                go_wp2_with fail
                go_roundw
                case rel => exact ⟨k + 1, HLT.out, by go_num, by rw [HNS.out], HB⟩
                case measure => simp [intOf]; have := HLT.out; omega
              · obtain rfl : g.srcs.length = k := by omega
                have hls := HLS.out
                generalize supS g g.srcs.length = sd at *
                go_wp2_with (first
                  | (go_at_call 16; refine (HWK.out _).mono ?_; rintro e w9 ⟨rfl, hb9⟩; have HB9 := Lib.hid (bel_next HB.out hb9); clear hb9)
                  | fail)
                go_ret
                exact ⟨rfl, (HX.out _ HB9.out).1⟩
    · have hz' : (E != 0) = true := by simpa using hz
      clear hz
      go_wp2_with (first
        | (go_at_call 16; refine (HWK.out _).mono ?_; rintro e w12 ⟨rfl, hb12⟩; have HB12 := Lib.hid (bel_next HB11 hb12); clear hb12)
        | fail)
      go_ret
      exact ⟨rfl, (HX.out _ HB12.out).1⟩
  · clear hfb hb1 hx1 h hf hw
    go_enter Try.func8, Try.ntmps8
    go_wp2_with (first
      | (go_at_call 15; refine (HLG.out _ HB0.out).mono ?_; rintro e w2 ⟨rfl, hb2⟩; have HB2 := Lib.hid hb2; clear hb2)
      | (go_at_call 16; refine (HWK.out _).mono ?_; rintro e w3 ⟨rfl, hb3⟩; have HB3 : Hid (Below w1.heap.size w1 w3) := HB2.out.trans (hb3.mono HB2.out.size); clear hb3)
      | fail)
    go_ret
    exact ⟨rfl, (HX.out _ HB3.out).1⟩
end Go.Proofs.Ytegclodchhcbaaa
