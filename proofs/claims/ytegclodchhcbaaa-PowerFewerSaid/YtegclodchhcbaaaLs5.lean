/- Law: one more fault, or one wanted user less, never carries more. Printed by gen_law8.py. -/
import Derived.Test.YtegclodchhcbaaaLs2
import Derived.Test.YtegclodchhcbaaaFy
namespace Go.Proofs.Ytegclodchhcbaaa
open Go.RowKit

theorem bel_from {a X X' W' : World} (h : Below a.heap.size a X') (hX : Below a.heap.size a X) (hb : Below X.heap.size X' W') : Below a.heap.size a W' := h.trans (hb.mono hX.size)
theorem erase_last {w : World} {g k : Nat} {l : List Int} (h : OwnF w g 3 l.length (fun j => .int .i64 (l.getD j 0))) (hk : k + 1 = l.length) (hl : l.length ≤ maxLen) : IntsA w w.heap.size (some ⟨g, 0, none⟩) (l.eraseIdx k) := by
  have hel : (l.eraseIdx k).length = l.length - 1 := by rw [List.length_eraseIdx, if_pos (by omega)]
  refine ⟨by omega, fun _ => ⟨g, 0, rfl, h.lt, fun i hi => ?_⟩⟩
  rw [Nat.zero_add, erase_get, if_pos (by omega)]
  exact h.cell (by omega)
theorem flow_vals (g : MGrid) (F : List MFault) (want : List Int) : ∃ sum, ∀ w e w', FlowP g F want w e w' → e = .returned (.tuple #[.int .i64 sum, .int .i64 (checkA g F want)]) ∧ (checkA g F want = 0 → ∃ n R, GridOk g n ∧ MostG g F want n sum R) := by
  obtain ⟨sum, h⟩ := flow_val g F want
  refine ⟨sum, fun w e w' hp => ⟨h w e w' hp, fun hz => ?_⟩⟩
  have he := h w e w' hp
  obtain ⟨_, s', he', _, hok⟩ := hp
  obtain ⟨n, R, h1, h2⟩ := hok hz
  rw [he'] at he
  simp at he
  rw [← he]
  exact ⟨n, R, h1, h2⟩
set_option maxRecDepth 100000 in
set_option maxHeartbeats 8000000 in
theorem fewer_any (g : MGrid) (A1 A2 A3 : Option Addr) (c1 c2 c3 : Nat) (A : Option Addr) (cap : Nat) (F : List MFault) (Aw : Option Addr) (wc : Nat) (want : List Int) (kk nn less : Int) (w : World) (h : GridA w w.heap.size g A1 A2 A3) (hf : FaultsA w w.heap.size A F) (_hcap : F.length ≤ cap) (hw : IntsA w w.heap.size Aw want) (_hi : (Lit.int .i64 less).wf = true) :
    Calls Try.prog 4 #[.agg (caseC g A1 A2 A3 c1 c2 c3 A cap F Aw wc want), .agg #[.int .i64 kk, .int .i64 nn], .int .i64 less] w fun e w' => e = .returned (.bool true) ∧ Below w.heap.size w w' := by
  obtain ⟨w0, hw0⟩ : ∃ w0, w.alloc (.cells #[.int .i64 g.nodes, .slice A1 g.lines.length c1, .slice A2 g.srcs.length c2, .slice A3 g.users.length c3, .slice A F.length cap, .slice Aw want.length wc] 30) = w0 := ⟨_, rfl⟩
  obtain ⟨w1, hw1⟩ : ∃ w1, w0.alloc (.cells #[.int .i64 kk, .int .i64 nn] 41) = w1 := ⟨_, rfl⟩
  have hb0 : Below w.heap.size w w0 := by rw [← hw0]; exact (Below.refl _ _).alloc (Nat.le_refl _) _
  have hs0 : w0.heap.size = w.heap.size + 1 := by rw [← hw0]; simp
  have hb1 : Below w0.heap.size w0 w1 := by rw [← hw1]; exact (Below.refl _ _).alloc (Nat.le_refl _) _
  have hs1 : w1.heap.size = w.heap.size + 2 := by rw [← hw1]; simp; omega
  have hx0 : w0.heap[w.heap.size]? = some (.cells #[.int .i64 g.nodes, .slice A1 g.lines.length c1, .slice A2 g.srcs.length c2, .slice A3 g.users.length c3, .slice A F.length cap, .slice Aw want.length wc] 30 (0, 0)) := by rw [← hw0]; exact heap_alloc_new w _
  have hx1 : w1.heap[w0.heap.size]? = some (.cells #[.int .i64 kk, .int .i64 nn] 41 (0, 0)) := by rw [← hw1]; exact heap_alloc_new w0 _
  have HX : Hid (∀ W, Below w1.heap.size w1 W → Below w.heap.size w W ∧ W.cell? ⟨w.heap.size, 0, none⟩ = some (.int .i64 g.nodes) ∧ W.cell? ⟨w.heap.size, 1, none⟩ = some (.slice A1 g.lines.length c1) ∧ W.cell? ⟨w.heap.size, 2, none⟩ = some (.slice A2 g.srcs.length c2) ∧ W.cell? ⟨w.heap.size, 3, none⟩ = some (.slice A3 g.users.length c3) ∧ W.cell? ⟨w.heap.size, 4, none⟩ = some (.slice A F.length cap) ∧ W.cell? ⟨w.heap.size, 5, none⟩ = some (.slice Aw want.length wc) ∧ W.cell? ⟨w0.heap.size, 0, none⟩ = some (.int .i64 kk) ∧ W.cell? ⟨w0.heap.size, 1, none⟩ = some (.int .i64 nn)) := fun W hW => by
    have h1 := (hW.block w.heap.size (by omega)).trans ((hb1.block w.heap.size (by omega)).trans hx0)
    have h2 := (hW.block w0.heap.size (by omega)).trans hx1
    exact ⟨hb0.trans ((hb1.trans (hW.mono (by omega))).mono (by omega)), cell_of_row W _ 0 _ _ _ h1, cell_of_row W _ 1 _ _ _ h1, cell_of_row W _ 2 _ _ _ h1, cell_of_row W _ 3 _ _ _ h1, cell_of_row W _ 4 _ _ _ h1, cell_of_row W _ 5 _ _ _ h1, cell_of_row W _ 0 _ _ _ h2, cell_of_row W _ 1 _ _ _ h2⟩
  have HG : Hid (∀ W, Below w1.heap.size w1 W → GridA W W.heap.size g A1 A2 A3 ∧ FaultsA W W.heap.size A F ∧ IntsA W W.heap.size Aw want) := fun W hW => by
    have hW := (HX.out W hW).1
    exact ⟨(h.keep hW).more hW.size, (hf.keep hW).more hW.size, (hw.below hW (Nat.le_refl _)).more hW.size⟩
  obtain ⟨_, p0, p1, p2, p3, p4, p5, p6, p7⟩ := HX.out w1 (Below.refl _ _)
  obtain ⟨fb, hfb⟩ : ∃ fb, largeB g F want = fb := ⟨_, rfl⟩
  have HLG : Hid (∀ W, Below w1.heap.size w1 W → Calls Try.prog 15 #[.agg #[.int .i64 g.nodes, .slice A1 g.lines.length c1, .slice A2 g.srcs.length c2, .slice A3 g.users.length c3, .slice A F.length cap, .slice Aw want.length wc]] W fun e w' => e = .returned (.bool fb) ∧ Below W.heap.size W w') := fun W hW => large_any g A1 A2 A3 c1 c2 c3 A cap F Aw wc want W (HG.out W hW).1 (HG.out W hW).2.1 (HG.out W hW).2.2 hfb
  have HWK := Lib.hid works_any
  have HB0 : Hid (Below w1.heap.size w1 w1) := Below.refl _ _
  have HL1 : Hid (w.heap.size + 2 = w1.heap.size ∧ w0.heap.size = w.heap.size + 1) := ⟨hs1.symm, hs0⟩
  have hml1 := h.ls.1
  have hml2 := h.ss.1
  have hml3 := h.us.1
  unfold caseC
  cases fb
  · obtain ⟨hfg, hfl, hwl⟩ := large_few hfb
    have H18 : Hid (∀ W, Below w1.heap.size w1 W → Calls Try.prog 18 #[.agg #[.int .i64 g.nodes, .slice A1 g.lines.length c1, .slice A2 g.srcs.length c2, .slice A3 g.users.length c3, .slice A F.length cap, .slice Aw want.length wc]] W fun e w' => ∃ B1 B2 B3 d1 d2 d3, e = .returned (.agg #[.int .i64 g.nodes, .slice B1 g.lines.length d1, .slice B2 g.srcs.length d2, .slice B3 g.users.length d3]) ∧ GridA w' w'.heap.size g B1 B2 B3 ∧ Below W.heap.size W w') := fun W hW => (grid_any g A1 A2 A3 c1 c2 c3 A cap F Aw wc want W (HG.out W hW).1 hfg).mono fun e w' ⟨B1, B2, B3, d1, d2, d3, he, ho, _, hb⟩ => ⟨B1, B2, B3, d1, d2, d3, he, ho.grid (HG.out W hW).1.ls.1 (HG.out W hW).1.ss.1 (HG.out W hW).1.us.1, hb⟩
    have H19 : Hid (∀ W, Below w1.heap.size w1 W → Calls Try.prog 19 #[.agg #[.int .i64 g.nodes, .slice A1 g.lines.length c1, .slice A2 g.srcs.length c2, .slice A3 g.users.length c3, .slice A F.length cap, .slice Aw want.length wc]] W fun e w' => ∃ B d, e = .returned (.slice B F.length d) ∧ F.length ≤ d ∧ FaultsA w' w'.heap.size B F ∧ Below W.heap.size W w') := fun W hW => (faults_any g A1 A2 A3 c1 c2 c3 A cap F Aw wc want W (HG.out W hW).2.1 (by omega)).mono fun e w' ⟨B, d, he, hd, ho, hb⟩ => ⟨B, d, he, hd, ⟨(HG.out W hW).2.1.1, ho.sl⟩, hb⟩
    have H23 : Hid (∀ W, Below w1.heap.size w1 W → Calls Try.prog 23 #[.agg #[.int .i64 g.nodes, .slice A1 g.lines.length c1, .slice A2 g.srcs.length c2, .slice A3 g.users.length c3, .slice A F.length cap, .slice Aw want.length wc]] W fun e w' => ∃ B d, e = .returned (.slice B want.length d) ∧ IntsA w' w'.heap.size B want ∧ Below W.heap.size W w') := fun W hW => (want_any g A1 A2 A3 c1 c2 c3 A cap F Aw wc want W (HG.out W hW).2.2 (by omega)).mono fun e w' ⟨v, he, ho, hb⟩ => by
      obtain ⟨B, d, rfl, _, hi⟩ := ho.reads
      exact ⟨B, d, he, hi, hb⟩
    have H18o : Hid (∀ W, Below w1.heap.size w1 W → Calls Try.prog 18 #[.agg #[.int .i64 g.nodes, .slice A1 g.lines.length c1, .slice A2 g.srcs.length c2, .slice A3 g.users.length c3, .slice A F.length cap, .slice Aw want.length wc]] W fun e w' => ∃ B1 B2 B3 d1 d2 d3, e = .returned (.agg #[.int .i64 g.nodes, .slice B1 g.lines.length d1, .slice B2 g.srcs.length d2, .slice B3 g.users.length d3]) ∧ OwnG w' W.heap.size g B1 B2 B3 ∧ Below W.heap.size W w') := fun W hW => (grid_any g A1 A2 A3 c1 c2 c3 A cap F Aw wc want W (HG.out W hW).1 hfg).mono fun e w' ⟨B1, B2, B3, d1, d2, d3, he, ho, _, hb⟩ => ⟨B1, B2, B3, d1, d2, d3, he, ho, hb⟩
    have H19r : Hid (∀ W, Below w1.heap.size w1 W → Calls Try.prog 19 #[.agg #[.int .i64 g.nodes, .slice A1 g.lines.length c1, .slice A2 g.srcs.length c2, .slice A3 g.users.length c3, .slice A F.length cap, .slice Aw want.length wc]] W fun e w' => ∃ B d, e = .returned (.slice B F.length d) ∧ F.length ≤ d ∧ RowO w' W.heap.size 41 2 B F.length (faultCell F) ∧ Below W.heap.size W w') := fun W hW => faults_any g A1 A2 A3 c1 c2 c3 A cap F Aw wc want W (HG.out W hW).2.1 (by omega)
    have H19o : Hid (∀ W, Below w1.heap.size w1 W → Calls Try.prog 19 #[.agg #[.int .i64 g.nodes, .slice A1 g.lines.length c1, .slice A2 g.srcs.length c2, .slice A3 g.users.length c3, .slice A F.length cap, .slice Aw want.length wc]] W fun e w' => ∃ v, e = .returned v ∧ OutF w' W.heap.size v F ∧ Below W.heap.size W w') := fun W hW => faultsO_any g A1 A2 A3 c1 c2 c3 A cap F Aw wc want W (HG.out W hW).2.1 (by omega)
    have H23o : Hid (∀ W, Below w1.heap.size w1 W → Calls Try.prog 23 #[.agg #[.int .i64 g.nodes, .slice A1 g.lines.length c1, .slice A2 g.srcs.length c2, .slice A3 g.users.length c3, .slice A F.length cap, .slice Aw want.length wc]] W fun e w' => ∃ v, e = .returned v ∧ OutI w' W.heap.size v want ∧ Below W.heap.size W w') := fun W hW => want_any g A1 A2 A3 c1 c2 c3 A cap F Aw wc want W (HG.out W hW).2.2 (by omega)
    obtain ⟨E, hE⟩ : ∃ E, checkA g F want = E := ⟨_, rfl⟩
    obtain ⟨E2, hE2⟩ : ∃ E2, checkA g (F ++ [⟨kk, nn⟩]) want = E2 := ⟨_, rfl⟩
    obtain ⟨sum, hsum⟩ := flow_vals g F want
    obtain ⟨sum2, hsum2⟩ := flow_vals g (F ++ [⟨kk, nn⟩]) want
    rw [hE] at hsum
    rw [hE2] at hsum2
    have H22 : Hid (∀ W B1 B2 B3 d1 d2 d3 Bf df Bw dw, Below w1.heap.size w1 W → GridA W W.heap.size g B1 B2 B3 → FaultsA W W.heap.size Bf F → F.length ≤ df → IntsA W W.heap.size Bw want → Calls Try.prog 22 #[.agg #[.int .i64 g.nodes, .slice B1 g.lines.length d1, .slice B2 g.srcs.length d2, .slice B3 g.users.length d3], .slice Bf F.length df, .slice Bw want.length dw] W fun e w' => e = .returned (.tuple #[.int .i64 sum, .int .i64 E]) ∧ (E = 0 → ∃ n R, GridOk g n ∧ MostG g F want n sum R) ∧ Below W.heap.size W w') := fun W B1 B2 B3 d1 d2 d3 Bf df Bw dw _ hg hff hd hi => (Flow_any g B1 B2 B3 d1 d2 d3 Bf df F Bw dw want W hg hff hd hi).mono fun e w' hp => ⟨(hsum _ _ _ hp).1, (hsum _ _ _ hp).2, hp.1⟩
    have H22b : Hid (∀ W B1 B2 B3 d1 d2 d3 Bf df Bw dw, Below w1.heap.size w1 W → GridA W W.heap.size g B1 B2 B3 → FaultsA W W.heap.size Bf (F ++ [⟨kk, nn⟩]) → F.length + 1 ≤ df → IntsA W W.heap.size Bw want → Calls Try.prog 22 #[.agg #[.int .i64 g.nodes, .slice B1 g.lines.length d1, .slice B2 g.srcs.length d2, .slice B3 g.users.length d3], .slice Bf (F.length + 1) df, .slice Bw want.length dw] W fun e w' => e = .returned (.tuple #[.int .i64 sum2, .int .i64 E2]) ∧ (E2 = 0 → ∃ n R, GridOk g n ∧ MostG g (F ++ [⟨kk, nn⟩]) want n sum2 R) ∧ Below W.heap.size W w') := fun W B1 B2 B3 d1 d2 d3 Bf df Bw dw _ hg hff hd hi => by
      have hlen : (F ++ [(⟨kk, nn⟩ : MFault)]).length = F.length + 1 := by simp
      have h9 := Flow_any g B1 B2 B3 d1 d2 d3 Bf df (F ++ [⟨kk, nn⟩]) Bw dw want W hg hff (by omega) hi
      rw [hlen] at h9
      exact h9.mono fun e w' hp => ⟨(hsum2 _ _ _ hp).1, (hsum2 _ _ _ hp).2, hp.1⟩
    have HEE := Lib.hid hE
    have HFL : Hid (F.length ≤ 15) := hfl
    have HMX : Hid (g.lines.length ≤ maxLen ∧ g.srcs.length ≤ maxLen ∧ g.users.length ≤ maxLen) := ⟨hml1, hml2, hml3⟩
    clear hE hE2 hsum hsum2 hml1 hml2 hml3 hfl
    clear hfb hb0 hb1 hx0 hx1 h hf hw hs0 hs1
    go_enter Try.func4, Try.ntmps4
    go_upto_region 3 with (go_at_call 15; refine (HLG.out _ HB0.out).mono ?_; rintro e w2 ⟨rfl, hb2⟩; have HB2 := Lib.hid hb2; clear hb2 p0 p1 p2 p3 p4 p5 p6 p7)
    obtain ⟨_, p0, p1, p2, p3, p4, p5, p6, p7⟩ := HX.out w2 HB2.out
    have HB2D : Below w1.heap.size w1 w2.drew := HB2.out.drew
    go_region_held3 (fun W => W.cell? ⟨w.heap.size, 0, none⟩ = some (.int .i64 g.nodes) ∧ W.cell? ⟨w.heap.size, 1, none⟩ = some (.slice A1 g.lines.length c1) ∧ W.cell? ⟨w.heap.size, 2, none⟩ = some (.slice A2 g.srcs.length c2) ∧ W.cell? ⟨w.heap.size, 3, none⟩ = some (.slice A3 g.users.length c3) ∧ W.cell? ⟨w.heap.size, 4, none⟩ = some (.slice A F.length cap) ∧ W.cell? ⟨w.heap.size, 5, none⟩ = some (.slice Aw want.length wc) ∧ W.cell? ⟨w0.heap.size, 0, none⟩ = some (.int .i64 kk) ∧ W.cell? ⟨w0.heap.size, 1, none⟩ = some (.int .i64 nn)) (first | exact (HX.out _ HB2D).2 | exact (HX.out _ HB3).2 | exact (HX.out _ HB4).2 | exact (HX.out _ HB5).2 | exact (HX.out _ HB6).2 | fail) ((first
      | (go_at_call 18; (with_reducible refine (H18.out _ HB2D).mono ?_); rintro e w3 ⟨B1, B2, B3, d1, d2, d3, rfl, hg3, hb3⟩; have HG3 := Lib.hid hg3; have HB3 : Below w1.heap.size w1 w3 := bel_next HB2D hb3; clear hg3 hb3)
      | (go_at_call 19; (with_reducible refine (H19.out _ HB3).mono ?_); rintro e w4 ⟨Bf, df, rfl, hdf, hf4, hb4⟩; have HG4 := Lib.hid ((HG3.out.keep hb4).more hb4.size); have HF4 := Lib.hid hf4; have HD4 := Lib.hid hdf; have HB4 : Below w1.heap.size w1 w4 := bel_next HB3 hb4; clear hf4 hb4 hdf)
      | (go_at_call 23; (with_reducible refine (H23.out _ HB4).mono ?_); rintro e w5 ⟨Bw, dw, rfl, hi5, hb5⟩; have HG5 := Lib.hid ((HG4.out.keep hb5).more hb5.size); have HF5 := Lib.hid ((HF4.out.keep hb5).more hb5.size); have HI5 := Lib.hid hi5; have HB5 : Below w1.heap.size w1 w5 := bel_next HB4 hb5; clear hi5 hb5)
      | (go_at_call 22; (with_reducible refine (H22.out _ B1 B2 B3 d1 d2 d3 Bf df Bw dw HB5 HG5.out HF5.out HD4.out HI5.out).mono ?_); rintro e w6 ⟨rfl, hok, hb6⟩; have HOK := Lib.hid hok; clear hok; have HB6 : Below w1.heap.size w1 w6 := bel_next HB5 hb6; clear hb6)
      | fail))
    clear p0 p1 p2 p3 p4 p5 p6 p7
    obtain ⟨_, p0, p1, p2, p3, p4, p5, p6, p7⟩ := HX.out w6 HB6
    have hsz6 : w0.heap.size < w6.heap.size := by have := HB6.size; have := HL1.out; omega
    have hsz6' : w.heap.size < w6.heap.size := by have := HL1.out; omega
    go_upto_region 4 with fail
    go_cut [9, 10] (fun v9 v10 wx => v9 = .int .i64 sum2 ∧ v10 = .int .i64 E2 ∧ Hid (Below w1.heap.size w1 wx) ∧ Hid (E2 = 0 → ∃ n R, GridOk g n ∧ MostG g (F ++ [⟨kk, nn⟩]) want n sum2 R))
    case first =>
     clear H18 H19 H22
     go_region_held3 (fun W => W.cell? ⟨w.heap.size, 0, none⟩ = some (.int .i64 g.nodes) ∧ W.cell? ⟨w.heap.size, 1, none⟩ = some (.slice A1 g.lines.length c1) ∧ W.cell? ⟨w.heap.size, 2, none⟩ = some (.slice A2 g.srcs.length c2) ∧ W.cell? ⟨w.heap.size, 3, none⟩ = some (.slice A3 g.users.length c3) ∧ W.cell? ⟨w.heap.size, 4, none⟩ = some (.slice A F.length cap) ∧ W.cell? ⟨w.heap.size, 5, none⟩ = some (.slice Aw want.length wc) ∧ W.cell? ⟨w0.heap.size, 0, none⟩ = some (.int .i64 kk) ∧ W.cell? ⟨w0.heap.size, 1, none⟩ = some (.int .i64 nn)) (first | (refine (HX.out _ ?_).2; (repeat' (first | assumption | exact Below.refl _ _ | apply bel_alloc | apply bel_drew)); done) | fail) ((first
      | (go_at_call 18; refine (H18o.out _ (by (repeat' (first | assumption | exact Below.refl _ _ | apply bel_alloc | apply bel_drew)); done)).mono ?_; rintro e w7 ⟨B1, B2, B3, d1, d2, d3, rfl, hg7, hb7⟩; have HG7 := Lib.hid (hg7.grid HMX.out.1 HMX.out.2.1 HMX.out.2.2); have HB7 : Below w1.heap.size w1 w7 := bel_next (by (repeat' (first | assumption | exact Below.refl _ _ | apply bel_alloc | apply bel_drew)); done) hb7; clear hg7)
      | (go_at_call 19; refine (H19o.out _ (by (repeat' (first | assumption | exact Below.refl _ _ | apply bel_alloc | apply bel_drew)); done)).mono ?_; rintro e w8 ⟨v8, rfl, ho8, hb8⟩; have HO8 := Lib.hid ho8; have HB8 : Below w1.heap.size w1 w8 := bel_next (by (repeat' (first | assumption | exact Below.refl _ _ | apply bel_alloc | apply bel_drew)); done) hb8; clear ho8)
      | (refine step_app_fault _ (by rfl) _ _ (by rfl) _ v8 F ⟨kk, nn⟩ (by rfl) (own_below HO8.out (show Below w8.heap.size w8 _ from (by (repeat' (first | assumption | exact Below.refl _ _ | apply bel_alloc | apply bel_drew)); done)) (fun k hk => (own_block_lt HO8.out k hk).2)) _ (by rfl) (by first | exact heap_alloc_new _ _ | exact (hb8.block _ (by simp)).trans (heap_alloc_new _ _) | exact (hb8.block _ (by have := hb7.size; simp at this ⊢; omega)).trans ((hb7.block _ (by simp)).trans (heap_alloc_new _ _)) | fail) (by have := HFL.out; omega) (Nat.le_trans hb8.size (show Below w8.heap.size w8 _ from (by (repeat' (first | assumption | exact Below.refl _ _ | apply bel_alloc | apply bel_drew)); done)).size) ?_; intro A9 c9 w9 hc9 hf9 hb9; have HB9 : Below w1.heap.size w1 w9 := bel_from (by (repeat' (first | assumption | exact Below.refl _ _ | apply bel_alloc | apply bel_drew)); done) (by (repeat' (first | assumption | exact Below.refl _ _ | apply bel_alloc | apply bel_drew)); done) hb9; have HG9 := Lib.hid ((HG7.out.keep (bel_from (by (repeat' (first | assumption | exact Below.refl _ _ | refine bel_next ?_ hb8 | apply bel_alloc | apply bel_drew)); done) (by (repeat' (first | assumption | exact Below.refl _ _ | apply bel_alloc | apply bel_drew)); done) hb9)).more (bel_from (by (repeat' (first | assumption | exact Below.refl _ _ | refine bel_next ?_ hb8 | apply bel_alloc | apply bel_drew)); done) (by (repeat' (first | assumption | exact Below.refl _ _ | apply bel_alloc | apply bel_drew)); done) hb9 : Below w7.heap.size w7 w9).size); have HF9 := Lib.hid hf9; have HC9 := Lib.hid hc9; clear hf9 hc9 hb9)
      | (go_at_call 23; refine (H23.out _ HB9).mono ?_; rintro e w10 ⟨Bwx, dwx, rfl, hi10, hb10⟩; have HG10 := Lib.hid ((HG9.out.keep hb10).more hb10.size); have HF10 := Lib.hid ((HF9.out.keep hb10).more hb10.size); have HI10 := Lib.hid hi10; have HB10 : Below w1.heap.size w1 w10 := bel_next HB9 hb10; clear hi10 hb10)
      | (go_at_call 22; refine (H22b.out _ B1 B2 B3 d1 d2 d3 A9 c9 Bwx dwx HB10 HG10.out HF10.out HC9.out HI10.out).mono ?_; rintro e w11 ⟨rfl, hok2, hb11⟩; have HOK2 := Lib.hid hok2; have HB11 : Below w1.heap.size w1 w11 := bel_next HB10 hb11; clear hb11 hok2)
      | fail))
     all_goals
      go_wp2_with fail
      go_meet
     all_goals exact ⟨rfl, rfl, HB11, HOK2⟩
    case rest =>
     obtain ⟨rfl, rfl, HB11, HOK2⟩ := hcut
     rename World => w11
     clear p0 p1 p2 p3 p4 p5 p6 p7 hsz6 hsz6' H22b H19o
     obtain ⟨_, p0, p1, p2, p3, p4, p5, p6, p7⟩ := HX.out w11 HB11.out
     have HLE : Hid (E = 0 → E2 = 0 → sum2 ≤ sum) := fun h1 h2 => by
       obtain ⟨n, R, hg1, hm1⟩ := HOK.out h1
       obtain ⟨n', R', hg2, hm2⟩ := HOK2.out h2
       obtain rfl := grid_n hg1 hg2
       exact flow_more hg1 hm1 hm2
     go_upto_region 5 with fail
     go_cut [50] (fun v50 wx => v50 = .bool false ∧ wx = w11)
     case first =>
       by_cases hz : E = 0
       · by_cases hz2 : E2 = 0
         · have hle := HLE.out hz hz2
           subst hz hz2
           go_wp2_with fail
           go_meet
           exact ⟨by rw [decide_eq_false (show ¬ sum < sum2 by omega)], rfl⟩
         · subst hz
           have hz' : (E2 == 0) = false := by simpa using hz2
           clear hz2
           go_wp2_with fail
           go_meet
           exact ⟨rfl, rfl⟩
       · have hz' : (E == 0) = false := by simpa using hz
         clear hz
         go_wp2_with fail
         go_meet
         exact ⟨rfl, rfl⟩
     case rest =>
       obtain ⟨rfl, rfl⟩ := hcut
       rename World => w11
       have hwlm := (HG.out w11 HB11.out).2.2.1
       unfold maxLen at hwlm
       by_cases hr1 : less < 0
       · go_wp2_with (first
           | (go_at_call 16; refine (HWK.out _).mono ?_; rintro e w12 ⟨rfl, hb12⟩; have HB12 := Lib.hid (bel_next HB11.out hb12); clear hb12)
           | fail)
         go_ret
         exact ⟨rfl, (HX.out _ HB12.out).1⟩
       by_cases hr2 : (want.length : Int) ≤ less
       · go_wp2_with (first
           | (go_at_call 16; refine (HWK.out _).mono ?_; rintro e w12 ⟨rfl, hb12⟩; have HB12 := Lib.hid (bel_next HB11.out hb12); clear hb12)
           | fail)
         go_ret
         exact ⟨rfl, (HX.out _ HB12.out).1⟩
       obtain ⟨k, hk⟩ : ∃ k : Nat, less = (k : Int) := ⟨less.toNat, by omega⟩
       subst hk
       have hkl : k < want.length := by omega
       clear hr1 hr2
       go_upto_region 10 with (go_at_call 23; refine (H23o.out _ HB11.out).mono ?_; rintro e w12 ⟨v12, rfl, ho12, hb12⟩; have HB12 := Lib.hid (bel_next HB11.out hb12); obtain ⟨A12, cp, rfl, hcp, _, hfar⟩ := ho12.far; obtain ⟨gw, rfl, hgw, hown⟩ := ho12.ownF (by omega); have HOW := Lib.hid hown; have HCP := Lib.hid hcp; have HGW : Hid (w11.heap.size ≤ gw ∧ gw < w12.heap.size) := ⟨hgw, hown.lt⟩; clear hb12 ho12 hfar hgw hown p0 p1 p2 p3 p4 p5 p6 p7)
       obtain ⟨_, p0, p1, p2, p3, p4, p5, p6, p7⟩ := HX.out w12 HB12.out
       have HB12D : Below w1.heap.size w1 w12.drew := HB12.out.drew
       have hwlm2 : want.length ≤ maxLen := by unfold maxLen; omega
       obtain ⟨E3, hE3⟩ : ∃ E3, checkA g F (want.eraseIdx k) = E3 := ⟨_, rfl⟩
       obtain ⟨sum3, hsum3⟩ := flow_vals g F (want.eraseIdx k)
       rw [hE3] at hsum3
       have H22c : Hid (∀ W B1 B2 B3 d1 d2 d3 Bf df dw, Below w1.heap.size w1 W → GridA W W.heap.size g B1 B2 B3 → FaultsA W W.heap.size Bf F → F.length ≤ df → IntsA W W.heap.size (some ⟨gw, 0, none⟩) (want.eraseIdx k) → Calls Try.prog 22 #[.agg #[.int .i64 g.nodes, .slice B1 g.lines.length d1, .slice B2 g.srcs.length d2, .slice B3 g.users.length d3], .slice Bf F.length df, .slice (some ⟨gw, 0, none⟩) (k + (want.length - (k + 1))) dw] W fun e w' => e = .returned (.tuple #[.int .i64 sum3, .int .i64 E3]) ∧ (E3 = 0 → ∃ n R, GridOk g n ∧ MostG g F (want.eraseIdx k) n sum3 R) ∧ Below W.heap.size W w') := fun W B1 B2 B3 d1 d2 d3 Bf df dw _ hg hff hd hi => by
         have hlen : (want.eraseIdx k).length = k + (want.length - (k + 1)) := by rw [List.length_eraseIdx, if_pos hkl]; omega
         have h9 := Flow_any g B1 B2 B3 d1 d2 d3 Bf df F (some ⟨gw, 0, none⟩) dw (want.eraseIdx k) W hg hff hd hi
         rw [hlen] at h9
         exact h9.mono fun e w' hp => ⟨(hsum3 _ _ _ hp).1, (hsum3 _ _ _ hp).2, hp.1⟩
       have HE3 := Lib.hid hE3
       have HKL := Lib.hid hkl
       have HFM : Hid (F.length ≤ maxLen) := by show F.length ≤ maxLen; have := HFL.out; unfold maxLen; omega
       have e1 : IntKind.i64.wrap ((k : Int) + 1) = (k : Int) + 1 := IntWalk.i64_in _ (by omega)
       have hcpv := HCP.out
       have q1 : (0 : Int) ≤ (k : Int) := by omega
       have q2 : (k : Int) ≤ (cp : Int) := by omega
       have q3 : (0 : Int) ≤ (k : Int) + 1 := by omega
       have q4 : (k : Int) + 1 ≤ (want.length : Int) := by omega
       have q5 : (want.length : Int) ≤ (cp : Int) := by omega
       have q6 : ((k : Int) + 1).toNat = k + 1 := by omega
       clear hE3 hsum3 H23o H18 H19 H22
       by_cases hcap : cp = k + 1
       · subst hcap
         have q7 : (k : Int) ≤ (k : Int) + 1 := by omega
         have hwk : want.length = k + 1 := by omega
         have H22d : Hid (∀ W B1 B2 B3 d1 d2 d3 Bf df dw, Below w1.heap.size w1 W → GridA W W.heap.size g B1 B2 B3 → FaultsA W W.heap.size Bf F → F.length ≤ df → IntsA W W.heap.size (some ⟨gw, 0, none⟩) (want.eraseIdx k) → Calls Try.prog 22 #[.agg #[.int .i64 g.nodes, .slice B1 g.lines.length d1, .slice B2 g.srcs.length d2, .slice B3 g.users.length d3], .slice Bf F.length df, .slice (some ⟨gw, 0, none⟩) k dw] W fun e w' => e = .returned (.tuple #[.int .i64 sum3, .int .i64 E3]) ∧ (E3 = 0 → ∃ n R, GridOk g n ∧ MostG g F (want.eraseIdx k) n sum3 R) ∧ Below W.heap.size W w') := fun W B1 B2 B3 d1 d2 d3 Bf df dw h1 h2 h3 h4 h5 => by
           have := H22c.out W B1 B2 B3 d1 d2 d3 Bf df dw h1 h2 h3 h4 h5
           rw [show k + (want.length - (k + 1)) = k by omega] at this
           exact this
         have HWK1 := Lib.hid hwk
         clear hwk H22c
         go_region_held3 (fun W => W.cell? ⟨w.heap.size, 0, none⟩ = some (.int .i64 g.nodes) ∧ W.cell? ⟨w.heap.size, 1, none⟩ = some (.slice A1 g.lines.length c1) ∧ W.cell? ⟨w.heap.size, 2, none⟩ = some (.slice A2 g.srcs.length c2) ∧ W.cell? ⟨w.heap.size, 3, none⟩ = some (.slice A3 g.users.length c3) ∧ W.cell? ⟨w.heap.size, 4, none⟩ = some (.slice A F.length cap) ∧ W.cell? ⟨w.heap.size, 5, none⟩ = some (.slice Aw want.length wc) ∧ W.cell? ⟨w0.heap.size, 0, none⟩ = some (.int .i64 kk) ∧ W.cell? ⟨w0.heap.size, 1, none⟩ = some (.int .i64 nn)) (first | exact (HX.out _ HB12D).2 | exact (HX.out _ HB13).2 | exact (HX.out _ HB14).2 | exact (HX.out _ HB16).2 | fail) ((first
           | (go_at_call 18; refine (H18o.out _ HB12D).mono ?_; rintro e w13 ⟨B1, B2, B3, d1, d2, d3, rfl, hg13, hb13⟩; have HG13 := Lib.hid (hg13.grid HMX.out.1 HMX.out.2.1 HMX.out.2.2); have K13 : Below w12.heap.size w12 w13 := bel_next (Below.refl w12.heap.size w12).drew hb13; have HB13 : Below w1.heap.size w1 w13 := bel_next HB12D hb13; clear hg13 hb13)
           | (go_at_call 19; refine (H19r.out _ HB13).mono ?_; rintro e w14 ⟨Bf, df, rfl, hdf, hf14, hb14⟩; have HG14 := Lib.hid ((HG13.out.keep hb14).more hb14.size); have K14 : Below w12.heap.size w12 w14 := bel_next K13 hb14; have HF14 : Hid (FaultsA w14 w14.heap.size Bf F) := ⟨HFM.out, hf14.sl⟩; have HD14 := Lib.hid hdf; have HB14 : Below w1.heap.size w1 w14 := bel_next HB13 hb14; have HI14 := Lib.hid (erase_last (HOW.out.below K14 HGW.out.2) HWK1.out.symm hwlm2); clear hf14 hb14 hdf)
           | (go_at_call 22; refine (H22d.out _ B1 B2 B3 d1 d2 d3 Bf df (k + 1) HB14 HG14.out HF14.out HD14.out HI14.out).mono ?_; rintro e w16 ⟨rfl, hok3, hb16⟩; have HOK3 := Lib.hid hok3; have HB16 : Below w1.heap.size w1 w16 := bel_next HB14 hb16; clear hb16 hok3)
           | fail))
         clear p0 p1 p2 p3 p4 p5 p6 p7
         by_cases hz : E = 0
         · have hs3 : E3 = 0 ∧ sum3 ≤ sum := by
             have h0 : E3 = 0 := by
               have h1 := HEE.out
               rw [hz] at h1
               rw [← HE3.out]
               exact checkA_less HKL.out h1
             obtain ⟨n, R, hg1, hm1⟩ := HOK.out hz
             obtain ⟨n', R', hg2, hm2⟩ := HOK3.out h0
             obtain rfl := grid_n hg1 hg2
             exact ⟨h0, flow_less hg1 HKL.out hm1 hm2⟩
           obtain ⟨h30, hle3⟩ := hs3
           subst hz
           clear HEE HOK HLE HOK2
           rw [h30]
           go_wp2_with (first
             | (go_at_call 16; refine (HWK.out _).mono ?_; rintro e w17 ⟨rfl, hb17⟩; have HB17 := Lib.hid (bel_next HB16 hb17); clear hb17)
             | fail)
           go_ret
           exact ⟨rfl, (HX.out _ HB17.out).1⟩
         · have hz' : (E != 0) = true := by simpa using hz
           clear hz
           go_wp2_with (first
             | (go_at_call 16; refine (HWK.out _).mono ?_; rintro e w17 ⟨rfl, hb17⟩; have HB17 := Lib.hid (bel_next HB16 hb17); clear hb17)
             | fail)
           go_ret
           exact ⟨rfl, (HX.out _ HB17.out).1⟩
       · have hcap2 : k + 1 < cp := by omega
         clear hcap
         go_region_held3 (fun W => W.cell? ⟨w.heap.size, 0, none⟩ = some (.int .i64 g.nodes) ∧ W.cell? ⟨w.heap.size, 1, none⟩ = some (.slice A1 g.lines.length c1) ∧ W.cell? ⟨w.heap.size, 2, none⟩ = some (.slice A2 g.srcs.length c2) ∧ W.cell? ⟨w.heap.size, 3, none⟩ = some (.slice A3 g.users.length c3) ∧ W.cell? ⟨w.heap.size, 4, none⟩ = some (.slice A F.length cap) ∧ W.cell? ⟨w.heap.size, 5, none⟩ = some (.slice Aw want.length wc) ∧ W.cell? ⟨w0.heap.size, 0, none⟩ = some (.int .i64 kk) ∧ W.cell? ⟨w0.heap.size, 1, none⟩ = some (.int .i64 nn)) (first | exact (HX.out _ HB12D).2 | exact (HX.out _ HB13).2 | exact (HX.out _ HB14).2 | exact (HX.out _ HB15).2 | exact (HX.out _ HB16).2 | fail) ((first
                | (go_at_call 18; refine (H18o.out _ HB12D).mono ?_; rintro e w13 ⟨B1, B2, B3, d1, d2, d3, rfl, hg13, hb13⟩; have HG13 := Lib.hid hg13; have K13 : Below w12.heap.size w12 w13 := bel_next (Below.refl w12.heap.size w12).drew hb13; have HB13 : Below w1.heap.size w1 w13 := bel_next HB12D hb13; clear hg13 hb13)
                | (go_at_call 19; refine (H19r.out _ HB13).mono ?_; rintro e w14 ⟨Bf, df, rfl, hdf, hf14, hb14⟩; have HG14 := Lib.hid (HG13.out.keep hb14); have K14 : Below w12.heap.size w12 w14 := bel_next K13 hb14; have HF14 := Lib.hid (hf14.base K13.size); have HD14 := Lib.hid hdf; have HB14 : Below w1.heap.size w1 w14 := bel_next HB13 hb14; clear hf14 hb14 hdf)
                | (refine step_erase _ (by rfl) _ _ (by rfl) gw cp k want hkl (by rfl) (k + 1) _ _ (by rfl) (by omega) (by omega) (HOW.out.below K14 HGW.out.2) (by have := HCP.out; omega) hwlm2 ?_; intro hi15; have HI15 := Lib.hid hi15; have HB15 : Below w1.heap.size w1 (w14.setCells gw k ((want.drop (k + 1)).map (Value.int .i64))) := setCells_below gw (Nat.le_trans HB11.out.size HGW.out.1) _ _ _ HB14; have HK15 : Hid (∀ b, w12.heap.size ≤ b → (w14.setCells gw k ((want.drop (k + 1)).map (Value.int .i64))).heap[b]? = w14.heap[b]?) := (fun b hb => setCells_heap gw _ _ _ b (by have := HGW.out.2; omega)); have HG15 := Lib.hid ((HG14.out.but HK15.out).grid HMX.out.1 HMX.out.2.1 HMX.out.2.2); have HF15 : Hid (FaultsA (w14.setCells gw k ((want.drop (k + 1)).map (Value.int .i64))) (w14.setCells gw k ((want.drop (k + 1)).map (Value.int .i64))).heap.size Bf F) := ⟨HFM.out, (HF14.out.but HK15.out).sl⟩; clear hi15; generalize (w14.setCells gw k ((want.drop (k + 1)).map (Value.int .i64))) = w15 at *)
                | (go_at_call 22; refine (H22c.out _ B1 B2 B3 d1 d2 d3 Bf df cp HB15 HG15.out HF15.out HD14.out HI15.out).mono ?_; rintro e w16 ⟨rfl, hok3, hb16⟩; have HOK3 := Lib.hid hok3; have HB16 : Below w1.heap.size w1 w16 := bel_next HB15 hb16; clear hb16 hok3)
                | fail))
         clear p0 p1 p2 p3 p4 p5 p6 p7
         by_cases hz : E = 0
         · have hs3 : E3 = 0 ∧ sum3 ≤ sum := by
             have h0 : E3 = 0 := by
               have h1 := HEE.out
               rw [hz] at h1
               rw [← HE3.out]
               exact checkA_less HKL.out h1
             obtain ⟨n, R, hg1, hm1⟩ := HOK.out hz
             obtain ⟨n', R', hg2, hm2⟩ := HOK3.out h0
             obtain rfl := grid_n hg1 hg2
             exact ⟨h0, flow_less hg1 HKL.out hm1 hm2⟩
           obtain ⟨h30, hle3⟩ := hs3
           subst hz
           clear HEE HOK HLE HOK2
           rw [h30]
           go_wp2_with (first
             | (go_at_call 16; refine (HWK.out _).mono ?_; rintro e w17 ⟨rfl, hb17⟩; have HB17 := Lib.hid (bel_next HB16 hb17); clear hb17)
             | fail)
           go_ret
           exact ⟨rfl, (HX.out _ HB17.out).1⟩
         · have hz' : (E != 0) = true := by simpa using hz
           clear hz
           go_wp2_with (first
             | (go_at_call 16; refine (HWK.out _).mono ?_; rintro e w17 ⟨rfl, hb17⟩; have HB17 := Lib.hid (bel_next HB16 hb17); clear hb17)
             | fail)
           go_ret
           exact ⟨rfl, (HX.out _ HB17.out).1⟩
  · clear hfb hb1 hx1 h hf hw
    go_enter Try.func4, Try.ntmps4
    go_wp2_with (first
      | (go_at_call 15; refine (HLG.out _ HB0.out).mono ?_; rintro e w2 ⟨rfl, hb2⟩; have HB2 := Lib.hid hb2; clear hb2)
      | (go_at_call 16; refine (HWK.out _).mono ?_; rintro e w3 ⟨rfl, hb3⟩; have HB3 : Hid (Below w1.heap.size w1 w3) := HB2.out.trans (hb3.mono HB2.out.size); clear hb3)
      | fail)
    go_ret
    exact ⟨rfl, (HX.out _ HB3.out).1⟩
end Go.Proofs.Ytegclodchhcbaaa
