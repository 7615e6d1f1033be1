/- Law: the users that are served come first. Printed by gen_law8.py. -/
import Derived.Test.YtegclodchhcbaaaLs2
import Derived.Test.YtegclodchhcbaaaPq
namespace Go.Proofs.Ytegclodchhcbaaa
open Go.RowKit

theorem CarriesP.car {g : MGrid} {F : List MFault} {want : List Int} {w w' : World} {e : Ending} (h : CarriesP g F want w e w') (hz : checkA g F want = 0) : e = .returned (.tuple #[.bool (carB g F want), .int .i64 0]) ∧ Below w.heap.size w w' := by
  obtain ⟨hb, b, he, _, hok⟩ := h
  obtain ⟨n, sum, R, hg, hm, hbe⟩ := hok hz
  refine ⟨?_, hb⟩
  have h1 : needS g want want.length = powS g want := sumN_list (fun x => (userAt g x).power) want
  have h2 := hm.car hg
  rw [he, hbe, hz, h1]
  have e : decide (sum = powS g want) = carB g F want := by
    rw [Bool.eq_iff_iff, carB_iff, ← h2]
    exact decide_eq_true_iff
  rw [e]
set_option maxRecDepth 100000 in
set_option maxHeartbeats 8000000 in
theorem first_any (g : MGrid) (A1 A2 A3 : Option Addr) (c1 c2 c3 : Nat) (A : Option Addr) (cap : Nat) (F : List MFault) (Aw : Option Addr) (wc : Nat) (want : List Int) (w : World) (h : GridA w w.heap.size g A1 A2 A3) (hf : FaultsA w w.heap.size A F) (_hcap : F.length ≤ cap) (hw : IntsA w w.heap.size Aw want) :
    Calls Try.prog 6 #[.agg (caseC g A1 A2 A3 c1 c2 c3 A cap F Aw wc want)] w fun e w' => e = .returned (.bool true) ∧ Below w.heap.size w w' := by
  obtain ⟨w1, hw1⟩ : ∃ w1, w.alloc (.cells #[.int .i64 g.nodes, .slice A1 g.lines.length c1, .slice A2 g.srcs.length c2, .slice A3 g.users.length c3, .slice A F.length cap, .slice Aw want.length wc] 30) = w1 := ⟨_, rfl⟩
  have hb1 : Below w.heap.size w w1 := by rw [← hw1]; exact (Below.refl _ _).alloc (Nat.le_refl _) _
  have hs1 : w1.heap.size = w.heap.size + 1 := by rw [← hw1]; simp
  have hx1 : w1.heap[w.heap.size]? = some (.cells #[.int .i64 g.nodes, .slice A1 g.lines.length c1, .slice A2 g.srcs.length c2, .slice A3 g.users.length c3, .slice A F.length cap, .slice Aw want.length wc] 30 (0, 0)) := by rw [← hw1]; exact heap_alloc_new w _
  have HX : Hid (∀ W, Below w1.heap.size w1 W → Below w.heap.size w W ∧ W.cell? ⟨w.heap.size, 0, none⟩ = some (.int .i64 g.nodes) ∧ W.cell? ⟨w.heap.size, 1, none⟩ = some (.slice A1 g.lines.length c1) ∧ W.cell? ⟨w.heap.size, 2, none⟩ = some (.slice A2 g.srcs.length c2) ∧ W.cell? ⟨w.heap.size, 3, none⟩ = some (.slice A3 g.users.length c3) ∧ W.cell? ⟨w.heap.size, 4, none⟩ = some (.slice A F.length cap) ∧ W.cell? ⟨w.heap.size, 5, none⟩ = some (.slice Aw want.length wc)) := fun W hW => by
    have h1 := (hW.block w.heap.size (by omega)).trans hx1
    exact ⟨hb1.trans (hW.mono (by omega)), cell_of_row W _ 0 _ _ _ h1, cell_of_row W _ 1 _ _ _ h1, cell_of_row W _ 2 _ _ _ h1, cell_of_row W _ 3 _ _ _ h1, cell_of_row W _ 4 _ _ _ h1, cell_of_row W _ 5 _ _ _ h1⟩
  have HG : Hid (∀ W, Below w1.heap.size w1 W → GridA W W.heap.size g A1 A2 A3 ∧ FaultsA W W.heap.size A F ∧ IntsA W W.heap.size Aw want) := fun W hW => by
    have hW := (HX.out W hW).1
    exact ⟨(h.keep hW).more hW.size, (hf.keep hW).more hW.size, (hw.below hW (Nat.le_refl _)).more hW.size⟩
  obtain ⟨_, p0, p1, p2, p3, p4, p5⟩ := HX.out w1 (Below.refl _ _)
  obtain ⟨fb, hfb⟩ : ∃ fb, largeB g F want = fb := ⟨_, rfl⟩
  have HLG : Hid (∀ W, Below w1.heap.size w1 W → Calls Try.prog 15 #[.agg #[.int .i64 g.nodes, .slice A1 g.lines.length c1, .slice A2 g.srcs.length c2, .slice A3 g.users.length c3, .slice A F.length cap, .slice Aw want.length wc]] W fun e w' => e = .returned (.bool fb) ∧ Below W.heap.size W w') := fun W hW => large_any g A1 A2 A3 c1 c2 c3 A cap F Aw wc want W (HG.out W hW).1 (HG.out W hW).2.1 (HG.out W hW).2.2 hfb
  have HWK := Lib.hid works_any
  have HB0 : Hid (Below w1.heap.size w1 w1) := Below.refl _ _
  unfold caseC
  cases fb
  · obtain ⟨hfg, hfl, hwl⟩ := large_few hfb
    have H18 : Hid (∀ W, Below w1.heap.size w1 W → Calls Try.prog 18 #[.agg #[.int .i64 g.nodes, .slice A1 g.lines.length c1, .slice A2 g.srcs.length c2, .slice A3 g.users.length c3, .slice A F.length cap, .slice Aw want.length wc]] W fun e w' => ∃ B1 B2 B3 d1 d2 d3, e = .returned (.agg #[.int .i64 g.nodes, .slice B1 g.lines.length d1, .slice B2 g.srcs.length d2, .slice B3 g.users.length d3]) ∧ GridA w' w'.heap.size g B1 B2 B3 ∧ Below W.heap.size W w') := fun W hW => (grid_any g A1 A2 A3 c1 c2 c3 A cap F Aw wc want W (HG.out W hW).1 hfg).mono fun e w' ⟨B1, B2, B3, d1, d2, d3, he, ho, _, hb⟩ => ⟨B1, B2, B3, d1, d2, d3, he, ho.grid (HG.out W hW).1.ls.1 (HG.out W hW).1.ss.1 (HG.out W hW).1.us.1, hb⟩
    have H19 : Hid (∀ W, Below w1.heap.size w1 W → Calls Try.prog 19 #[.agg #[.int .i64 g.nodes, .slice A1 g.lines.length c1, .slice A2 g.srcs.length c2, .slice A3 g.users.length c3, .slice A F.length cap, .slice Aw want.length wc]] W fun e w' => ∃ B d, e = .returned (.slice B F.length d) ∧ F.length ≤ d ∧ FaultsA w' w'.heap.size B F ∧ Below W.heap.size W w') := fun W hW => (faults_any g A1 A2 A3 c1 c2 c3 A cap F Aw wc want W (HG.out W hW).2.1 (by omega)).mono fun e w' ⟨B, d, he, hd, ho, hb⟩ => ⟨B, d, he, hd, ⟨(HG.out W hW).2.1.1, ho.sl⟩, hb⟩
    have H23 : Hid (∀ W, Below w1.heap.size w1 W → Calls Try.prog 23 #[.agg #[.int .i64 g.nodes, .slice A1 g.lines.length c1, .slice A2 g.srcs.length c2, .slice A3 g.users.length c3, .slice A F.length cap, .slice Aw want.length wc]] W fun e w' => ∃ B d, e = .returned (.slice B want.length d) ∧ IntsA w' w'.heap.size B want ∧ Below W.heap.size W w') := fun W hW => (want_any g A1 A2 A3 c1 c2 c3 A cap F Aw wc want W (HG.out W hW).2.2 (by omega)).mono fun e w' ⟨v, he, ho, hb⟩ => by
      obtain ⟨B, d, rfl, _, hi⟩ := ho.reads
      exact ⟨B, d, he, hi, hb⟩
    obtain ⟨E, hE⟩ : ∃ E, checkGF g F = E := ⟨_, rfl⟩
    obtain ⟨E2, hE2⟩ : ∃ E2, checkA g F want = E2 := ⟨_, rfl⟩
    obtain ⟨L, hL⟩ : ∃ L, lenS g F = L := ⟨_, rfl⟩
    obtain ⟨cb, hcb⟩ := carries_val g F want
    rw [hE2] at hcb
    have H17 : Hid (∀ W B1 B2 B3 d1 d2 d3 Bf df, Below w1.heap.size w1 W → GridA W W.heap.size g B1 B2 B3 → FaultsA W W.heap.size Bf F → F.length ≤ df → Calls Try.prog 17 #[.agg #[.int .i64 g.nodes, .slice B1 g.lines.length d1, .slice B2 g.srcs.length d2, .slice B3 g.users.length d3], .slice Bf F.length df] W fun e w' => ∃ A', e = .returned (.tuple #[.slice A' L L, .int .i64 E]) ∧ BoolsA w' w'.heap.size A' L (servedB g F) ∧ Below W.heap.size W w') := fun W B1 B2 B3 d1 d2 d3 Bf df _ hg hff hd => (Served_any g B1 B2 B3 d1 d2 d3 Bf df F W hg hff hd).mono fun e w' hp => by
      have := hp.form hg.us.1
      rw [hE, hL] at this
      exact this
    have H25 : Hid (∀ W B1 B2 B3 d1 d2 d3 Bf df Bw dw, Below w1.heap.size w1 W → GridA W W.heap.size g B1 B2 B3 → FaultsA W W.heap.size Bf F → F.length ≤ df → IntsA W W.heap.size Bw want → Calls Try.prog 25 #[.agg #[.int .i64 g.nodes, .slice B1 g.lines.length d1, .slice B2 g.srcs.length d2, .slice B3 g.users.length d3], .slice Bf F.length df, .slice Bw want.length dw] W fun e w' => e = .returned (.tuple #[.bool cb, .int .i64 E2]) ∧ (E2 = 0 → cb = carB g F want) ∧ Below W.heap.size W w') := fun W B1 B2 B3 d1 d2 d3 Bf df Bw dw _ hg hff hd hi => (Carries_any g B1 B2 B3 d1 d2 d3 Bf df F Bw dw want W hg hff hd hi).mono fun e w' hp => ⟨hcb _ _ _ hp, fun hz => by
      have h1 := hcb _ _ _ hp
      have h2 := (hp.car (hE2.trans hz)).1
      rw [h1] at h2
      simp at h2
      exact h2.1, hp.1⟩
    have HEE := Lib.hid hE
    have HEE2 := Lib.hid hE2
    have HLL := Lib.hid hL
    clear hE hE2 hcb hL
    clear hfb hb1 hx1 h hf hw
    go_enter Try.func6, Try.ntmps6
    go_upto_region 3 with (go_at_call 15; refine (HLG.out _ HB0.out).mono ?_; rintro e w2 ⟨rfl, hb2⟩; have HB2 := Lib.hid hb2; clear hb2 p0 p1 p2 p3 p4 p5)
    obtain ⟨_, p0, p1, p2, p3, p4, p5⟩ := HX.out w2 HB2.out
    have HB2D : Below w1.heap.size w1 w2.drew := HB2.out.drew
    go_region_held3 (fun W => W.cell? ⟨w.heap.size, 0, none⟩ = some (.int .i64 g.nodes) ∧ W.cell? ⟨w.heap.size, 1, none⟩ = some (.slice A1 g.lines.length c1) ∧ W.cell? ⟨w.heap.size, 2, none⟩ = some (.slice A2 g.srcs.length c2) ∧ W.cell? ⟨w.heap.size, 3, none⟩ = some (.slice A3 g.users.length c3) ∧ W.cell? ⟨w.heap.size, 4, none⟩ = some (.slice A F.length cap) ∧ W.cell? ⟨w.heap.size, 5, none⟩ = some (.slice Aw want.length wc)) (first | exact (HX.out _ HB2D).2 | exact (HX.out _ HB3).2 | exact (HX.out _ HB4).2 | exact (HX.out _ HB5).2 | fail) ((first
      | (go_at_call 18; (with_reducible refine (H18.out _ HB2D).mono ?_); rintro e w3 ⟨B1, B2, B3, d1, d2, d3, rfl, hg3, hb3⟩; have HG3 := Lib.hid hg3; have HB3 : Below w1.heap.size w1 w3 := bel_next HB2D hb3; clear hg3 hb3)
      | (go_at_call 19; (with_reducible refine (H19.out _ HB3).mono ?_); rintro e w4 ⟨Bf, df, rfl, hdf, hf4, hb4⟩; have HG4 := Lib.hid ((HG3.out.keep hb4).more hb4.size); have HF4 := Lib.hid hf4; have HD4 := Lib.hid hdf; have HB4 : Below w1.heap.size w1 w4 := bel_next HB3 hb4; clear hf4 hb4 hdf)
      | (go_at_call 17; (with_reducible refine (H17.out _ B1 B2 B3 d1 d2 d3 Bf df HB4 HG4.out HF4.out HD4.out).mono ?_); rintro e w5 ⟨A5, rfl, ha5, hb5⟩; have HA5 := Lib.hid ha5; have HB5 : Below w1.heap.size w1 w5 := bel_next HB4 hb5; clear ha5 hb5)
      | fail))
    clear p0 p1 p2 p3 p4 p5
    obtain ⟨_, p0, p1, p2, p3, p4, p5⟩ := HX.out w5 HB5
    go_upto_region 4 with fail
    have HB5D : Below w1.heap.size w1 w5.drew := HB5.drew
    have HC5D : Below w5.heap.size w5 w5.drew := (Below.refl _ _).drew
    go_region_held3 (fun W => W.cell? ⟨w.heap.size, 0, none⟩ = some (.int .i64 g.nodes) ∧ W.cell? ⟨w.heap.size, 1, none⟩ = some (.slice A1 g.lines.length c1) ∧ W.cell? ⟨w.heap.size, 2, none⟩ = some (.slice A2 g.srcs.length c2) ∧ W.cell? ⟨w.heap.size, 3, none⟩ = some (.slice A3 g.users.length c3) ∧ W.cell? ⟨w.heap.size, 4, none⟩ = some (.slice A F.length cap) ∧ W.cell? ⟨w.heap.size, 5, none⟩ = some (.slice Aw want.length wc)) (first | exact (HX.out _ HB5D).2 | exact (HX.out _ HB6).2 | exact (HX.out _ HB7).2 | exact (HX.out _ HB8).2 | exact (HX.out _ HB9).2 | fail) ((first
      | (go_at_call 18; (with_reducible refine (H18.out _ HB5D).mono ?_); rintro e w6 ⟨B1x, B2x, B3x, d1x, d2x, d3x, rfl, hg6, hb6⟩; have HG6 := Lib.hid hg6; have KC6 : Below w5.heap.size w5 w6 := bel_next HC5D hb6; have HB6 : Below w1.heap.size w1 w6 := bel_next HB5D hb6; clear hg6 hb6)
      | (go_at_call 19; (with_reducible refine (H19.out _ HB6).mono ?_); rintro e w7 ⟨Bfx, dfx, rfl, hdf, hf7, hb7⟩; have HG7 := Lib.hid ((HG6.out.keep hb7).more hb7.size); have HF7 := Lib.hid hf7; have HD7 := Lib.hid hdf; have KC7 : Below w5.heap.size w5 w7 := bel_next KC6 hb7; have HB7 : Below w1.heap.size w1 w7 := bel_next HB6 hb7; clear hf7 hb7 hdf)
      | (go_at_call 23; (with_reducible refine (H23.out _ HB7).mono ?_); rintro e w8 ⟨Bwx, dwx, rfl, hi8, hb8⟩; have HG8 := Lib.hid ((HG7.out.keep hb8).more hb8.size); have HF8 := Lib.hid ((HF7.out.keep hb8).more hb8.size); have HI8 := Lib.hid hi8; have KC8 : Below w5.heap.size w5 w8 := bel_next KC7 hb8; have HB8 : Below w1.heap.size w1 w8 := bel_next HB7 hb8; clear hi8 hb8)
      | (go_at_call 25; (with_reducible refine (H25.out _ B1x B2x B3x d1x d2x d3x Bfx dfx Bwx dwx HB8 HG8.out HF8.out HD7.out HI8.out).mono ?_); rintro e w9 ⟨rfl, hcar, hb9⟩; have HCAR := Lib.hid hcar; clear hcar; have KC9 : Below w5.heap.size w5 w9 := bel_next KC8 hb9; have HB9 : Below w1.heap.size w1 w9 := bel_next HB8 hb9; clear hb9)
      | fail))
    clear p0 p1 p2 p3 p4 p5
    obtain ⟨_, p0, p1, p2, p3, p4, p5⟩ := HX.out w9 HB9
    by_cases hz : E = 0
    · subst hz
      by_cases hz2 : E2 = 0
      · subst hz2
        obtain ⟨n, hgo⟩ := checkG_ok (checkGF_ok HEE.out).1
        have hnu := hgo.nu
        have hLv : L = g.users.length := by rw [← HLL.out]; exact if_pos HEE.out
        subst hLv
        have hcbv := HCAR.out (by simp)
        have HRO := Lib.hid (fun x => rankO_mem hgo x)
        have HRL : Hid ((rankO g).length ≤ g.users.length) := rankO_len hgo
        have HND : Hid ((rankO g).Nodup) := nodup_key (rankL_sorted (by omega))
        have HFO : Hid (cb = true → ∀ i : Nat, i < (rankO g).length → (∀ j, j < i → ((rankO g).getD j 0 ∈ want ↔ (rankO g).getD j 0 ∈ servedG g F)) → (rankO g).getD i 0 ∈ want → (rankO g).getD i 0 ∈ servedG g F) := fun hc _ hi hb hw => first_ok hgo HND.out (carB_iff.1 (hcbv.symm.trans hc)) hi hb hw
        have HCK : Hid (checkA g F (servL g F g.users.length) = 0) := by
          show _ = _
          unfold checkA
          rw [if_pos HEE.out]
          exact checkW_asc servL_asc fun x hx => (servL_mem.1 hx).1
        have HOWN : Hid (∀ W B1 B2 B3 d1 d2 d3 Bf df Bw dw, Below w1.heap.size w1 W → GridA W W.heap.size g B1 B2 B3 → FaultsA W W.heap.size Bf F → F.length ≤ df → IntsA W W.heap.size Bw (servL g F g.users.length) → Calls Try.prog 25 #[.agg #[.int .i64 g.nodes, .slice B1 g.lines.length d1, .slice B2 g.srcs.length d2, .slice B3 g.users.length d3], .slice Bf F.length df, .slice Bw (servL g F g.users.length).length dw] W fun e w' => e = .returned (.tuple #[.bool true, .int .i64 0]) ∧ Below W.heap.size W w') := fun W B1 B2 B3 d1 d2 d3 Bf df Bw dw _ hg hff hd hi => (Carries_any g B1 B2 B3 d1 d2 d3 Bf df F Bw dw (servL g F g.users.length) W hg hff hd hi).mono fun e w' hp => by
          have := hp.car HCK.out
          rw [servL_car hgo F g.users.length] at this
          exact this
        have HRK : Hid (∀ W, Below w1.heap.size w1 W → Calls Try.prog 27 #[.agg #[.int .i64 g.nodes, .slice A1 g.lines.length c1, .slice A2 g.srcs.length c2, .slice A3 g.users.length c3]] W fun e w' => ∃ v, e = .returned v ∧ OutI w' W.heap.size v (rankO g) ∧ Below W.heap.size W w') := fun W hW => ranked_any g A1 A2 A3 c1 c2 c3 W (HG.out W hW).1 (by omega)
        have HA9 := Lib.hid (HA5.out.later KC9)
        clear hgo hcbv H17 H25 H23 HA5 HLL HCAR
        have HSV : Hid (∀ t, servedB g F t = hasI (servedG g F) t) := fun _ => rfl
        have HN9 : Hid (OutI w9 w9.heap.size (.slice none 0 0) (servL g F 0)) := OutI.nil _ _
        have HC0 : Hid (Below w9.heap.size w9 w9) := Below.refl _ _
        have HX9 : Hid (∀ W, Below w9.heap.size w9 W → Below w1.heap.size w1 W) := fun W hW => bel_next HB9 hW
        go_wp2_with fail
        clear p0 p1 p2 p3 p4 p5
        go_loopw [8, 7] (fun vi vo wr => ∃ (k : Nat) (V : Value), k ≤ g.users.length ∧ vi = .int .i64 k ∧ V = vo ∧ Hid (OutI wr w9.heap.size V (servL g F k)) ∧ Hid (Below w9.heap.size w9 wr)) (fun vi _ _ => g.users.length - (intOf vi).toNat)
        case atStart => exact ⟨0, _, Nat.zero_le _, rfl, rfl, HN9.out, HC0.out⟩
        case round =>
          clear HN9 HC0
          obtain ⟨k, V, hk, rfl, rfl, HV, HB⟩ := hrel
          rename World => wr
          have hbs := HB.out.size
          by_cases hlt : k < g.users.length
          · obtain ⟨b9, o9, hA9, hb9, x0⟩ := (HA9.out.later HB.out).at_ hlt
            subst hA9
            have HLT := Lib.hid hlt
            have hsl := servL_len (g := g) (F := F) (k := k)
            have hll : (servL g F k).length ≤ 100 := by omega
            have HST : Hid (servL g F (k + 1) = if servedB g F k = true then servL g F k ++ [(k : Int)] else servL g F k) := rfl
            clear hsl
            generalize servL g F k = Lk at *
            generalize servedB g F k = bk at *
            rcases bk with _ | _
            · have HS2 : Hid (servL g F (k + 1) = Lk) := HST.out
              go_wp2_with fail
              go_roundw
              case rel => exact ⟨k + 1, _, HLT.out, by go_num, rfl, by rw [HS2.out]; exact HV.out, HB.out⟩
              case measure => simp [intOf]; have := HLT.out; omega
            · have HS2 : Hid (servL g F (k + 1) = Lk ++ [(k : Int)]) := HST.out
              have HA : Hid (OutI (wr.alloc (.cells #[.int .i64 k] 3)) w9.heap.size V Lk ∧ (wr.alloc (.cells #[.int .i64 k] 3)).cell? ⟨wr.heap.size, 0, none⟩ = some (.int .i64 k)) := ⟨own_below HV.out ((Below.refl _ _).alloc (Nat.le_refl _) _) (fun b hb => (own_block_lt HV.out b hb).2), newcell wr _ 3 0⟩
              go_wp2_with (at_builtin; refine app_int _ rfl _ _ rfl w9.heap.size V Lk rfl HA.out.1 wr.heap.size k rfl HA.out.2 (by omega) (by simp; omega) ?_; intro v7 w7 hO7 hg7; have HO7 := Lib.hid hO7; have HB7 : Hid (Below w9.heap.size w9 w7) := (HB.out.alloc HB.out.size _).grown hg7 (by simp; omega) (fun b hb => (own_block_lt HV.out b hb).1); clear hO7 hg7)
              go_roundw
              case rel => exact ⟨k + 1, _, HLT.out, by go_num, rfl, by rw [HS2.out]; exact HO7.out, HB7.out⟩
              case measure => simp [intOf]; have := HLT.out; omega
          · obtain rfl : k = g.users.length := by omega
            obtain ⟨Aw2, cw2, rfl, _, hiw⟩ := HV.out.reads
            have HIW := Lib.hid hiw
            have HBR := HX9.out wr HB.out
            have hsl := servL_len (g := g) (F := F) (k := g.users.length)
            clear hiw
            go_upto_region 15 with fail
            obtain ⟨_, p0, p1, p2, p3, p4, p5⟩ := HX.out wr HBR
            have HBRD : Below w1.heap.size w1 wr.drew := HBR.drew
            have KRD : Below w9.heap.size w9 wr.drew := HB.out.drew
            have KR0 : Below wr.heap.size wr wr.drew := (Below.refl _ _).drew
            go_region_held3 (fun W => W.cell? ⟨w.heap.size, 0, none⟩ = some (.int .i64 g.nodes) ∧ W.cell? ⟨w.heap.size, 1, none⟩ = some (.slice A1 g.lines.length c1) ∧ W.cell? ⟨w.heap.size, 2, none⟩ = some (.slice A2 g.srcs.length c2) ∧ W.cell? ⟨w.heap.size, 3, none⟩ = some (.slice A3 g.users.length c3) ∧ W.cell? ⟨w.heap.size, 4, none⟩ = some (.slice A F.length cap) ∧ W.cell? ⟨w.heap.size, 5, none⟩ = some (.slice Aw want.length wc)) (first | exact (HX.out _ HBRD).2 | exact (HX.out _ HB13).2 | exact (HX.out _ HB14).2 | exact (HX.out _ HB15).2 | fail) ((first
              | (go_at_call 18; (with_reducible refine (H18.out _ HBRD).mono ?_); rintro e w13 ⟨B1y, B2y, B3y, d1y, d2y, d3y, rfl, hg13, hb13⟩; have HG13 := Lib.hid hg13; have HB13 : Below w1.heap.size w1 w13 := bel_next HBRD hb13; have K13 : Below w9.heap.size w9 w13 := bel_next KRD hb13; have R13 : Below wr.heap.size wr w13 := bel_next KR0 hb13; clear hg13 hb13)
              | (go_at_call 19; (with_reducible refine (H19.out _ HB13).mono ?_); rintro e w14 ⟨Bfy, dfy, rfl, hdf, hf14, hb14⟩; have HG14 := Lib.hid ((HG13.out.keep hb14).more hb14.size); have HF14 := Lib.hid hf14; have HD14 := Lib.hid hdf; have HB14 : Below w1.heap.size w1 w14 := bel_next HB13 hb14; have K14 : Below w9.heap.size w9 w14 := bel_next K13 hb14; have R14 : Below wr.heap.size wr w14 := bel_next R13 hb14; have HI14 := Lib.hid ((HIW.out.below R14 (Nat.le_refl _)).more R14.size); clear hf14 hb14 hdf)
              | (go_at_call 25; (with_reducible refine (HOWN.out _ B1y B2y B3y d1y d2y d3y Bfy dfy Aw2 cw2 HB14 HG14.out HF14.out HD14.out HI14.out).mono ?_); rintro e w15 ⟨rfl, hb15⟩; have HB15 : Below w1.heap.size w1 w15 := bel_next HB14 hb15; have K15 : Below w9.heap.size w9 w15 := bel_next K14 hb15; clear hb15)
              | fail))
            clear p0 p1 p2 p3 p4 p5
            obtain ⟨_, p0, p1, p2, p3, p4, p5⟩ := HX.out w15 HB15
            go_upto_block 2 with (first
              | (go_at_call 27; refine (HRK.out _ HB15).mono ?_; rintro e w16 ⟨v16, rfl, ho16, hb16⟩; obtain ⟨Ao, co, rfl, _, hio, _⟩ := ho16.far; have HIO := Lib.hid hio; have HB16 := Lib.hid (bel_next HB15 hb16); have K16 := Lib.hid (bel_next K15 hb16); clear ho16 hb16 hio p0 p1 p2 p3 p4 p5)
              | fail)
            have HA16 := Lib.hid (HA9.out.later K16.out)
            have HL2 : Hid (∀ W, Below w16.heap.size w16 W → Below w1.heap.size w1 W ∧ BoolsA W W.heap.size A5 g.users.length (servedB g F) ∧ IntsA W W.heap.size Ao (rankO g)) := fun W hW => ⟨bel_next HB16.out hW, HA16.out.later hW, (HIO.out.below hW (Nat.le_refl _)).more hW.size⟩
            have HC16 : Hid (Below w16.heap.size w16 w16) := Below.refl _ _
            have HXX : Hid (∀ W, Below w16.heap.size w16 W → Below w.heap.size w W) := fun W hW => (HX.out W (bel_next HB16.out hW)).1
            have hrl := HRL.out
            rcases cb with _ | _
            · go_wp2_with fail
              go_loopw [12] (fun vi wr => vi = .int .i64 0 ∧ wr = w16) (fun vi _ => 0)
              case atStart => exact ⟨rfl, rfl⟩
              case round =>
                obtain ⟨rfl, rfl⟩ := hrel
                rename World => wq
                by_cases h0 : 0 < (rankO g).length
                · go_wp2_with (first
                    | (go_at_call 16; refine (HWK.out _).mono ?_; rintro e w19 ⟨rfl, hb19⟩; have HB19 := Lib.hid hb19; clear hb19)
                    | fail)
                  go_ret
                  exact ⟨rfl, HXX.out _ HB19.out⟩
                · go_wp2_with (first
                    | (go_at_call 16; refine (HWK.out _).mono ?_; rintro e w19 ⟨rfl, hb19⟩; have HB19 := Lib.hid hb19; clear hb19)
                    | fail)
                  go_ret
                  exact ⟨rfl, HXX.out _ HB19.out⟩
            · have HFP : Hid (∀ i : Nat, i < (rankO g).length → (∀ j, j < i → ((rankO g).getD j 0 ∈ want ↔ (rankO g).getD j 0 ∈ servedG g F)) → (rankO g).getD i 0 ∈ want → (rankO g).getD i 0 ∈ servedG g F) := HFO.out (by simp)
              clear HFO
              go_wp2_with fail
              go_loopw [12] (fun vi wr => ∃ i : Nat, i ≤ (rankO g).length ∧ vi = .int .i64 i ∧ Hid (Below w16.heap.size w16 wr) ∧ Hid (∀ j, j < i → ((rankO g).getD j 0 ∈ want ↔ (rankO g).getD j 0 ∈ servedG g F))) (fun vi _ => (rankO g).length - (intOf vi).toNat)
              case atStart => exact ⟨0, Nat.zero_le _, rfl, HC16.out, fun j hj => absurd hj (Nat.not_lt_zero _)⟩
              case round =>
                clear HC16
                obtain ⟨i, hi, rfl, HB, HJ⟩ := hrel
                rename World => wq
                by_cases hlt : i < (rankO g).length
                · have HLT := Lib.hid hlt
                  obtain ⟨u, hu, hul⟩ : ∃ u : Nat, (rankO g).getD i 0 = (u : Int) ∧ u < g.users.length := by
                    have := (HRO.out _).1 (getD_mem_of hlt 0)
                    exact ⟨((rankO g).getD i 0).toNat, by omega, by omega⟩
                  have HU := Lib.hid hu
                  have HST : Hid (∀ wb : Bool, hasI want u = wb → (wb = servedB g F u → ∀ j, j < i + 1 → ((rankO g).getD j 0 ∈ want ↔ (rankO g).getD j 0 ∈ servedG g F)) ∧ (wb = true → servedB g F u = true)) := fun wb hwb => by
                    have e1 : (u : Int) ∈ want ↔ wb = true := by rw [← hwb]; unfold hasI; exact List.contains_iff_mem.symm
                    have e2 : (u : Int) ∈ servedG g F ↔ servedB g F u = true := by show _ ↔ hasI _ _ = true; unfold hasI; exact List.contains_iff_mem.symm
                    refine ⟨fun hs j hj => ?_, fun hw => ?_⟩
                    · by_cases e : j = i
                      · subst e
                        rw [hu, e1, e2, hs]
                      · exact HJ.out j (by omega)
                    · have := HFP.out i hlt HJ.out (by rw [hu]; exact e1.2 hw)
                      rw [hu] at this
                      exact e2.1 this
                  go_wp2_with fail
                  go_loopw [14, 13] (fun vk vw wz => ∃ k : Nat, k ≤ want.length ∧ vk = .int .i64 k ∧ vw = .bool (hasI (want.take k) u) ∧ Hid (Below w16.heap.size w16 wz)) (fun vk _ _ => want.length - (intOf vk).toNat)
                  case atStart => exact ⟨0, Nat.zero_le _, rfl, by simp [hasI], HB⟩
                  case round =>
                    clear HB
                    obtain ⟨k, hk, rfl, rfl, HB⟩ := hrel
                    rename World => wz
                    obtain ⟨hbz, hbo, hio⟩ := HL2.out wz HB.out
                    obtain ⟨_, p0, p1, p2, p3, p4, p5⟩ := HX.out wz hbz
                    have hwl2 := (HG.out wz hbz).2.2.1
                    unfold maxLen at hwl2
                    obtain ⟨b8, o8, hA8, _, y0⟩ := hio.at_ hlt
                    subst hA8
                    rw [hu] at y0
                    by_cases hkl : k < want.length
                    · obtain ⟨b9, o9, hA9, _, x0⟩ := (HG.out wz hbz).2.2.at_ hkl
                      subst hA9
                      have HKL := Lib.hid hkl
                      have HTK : Hid (hasI (want.take (k + 1)) u = (hasI (want.take k) u || decide ((u : Int) = want.getD k 0))) := by
                        show _ = _
                        rw [List.take_add_one, List.getElem?_eq_getElem hkl]
                        have e : want.getD k 0 = want[k] := by rw [List.getD_eq_getElem?_getD, List.getElem?_eq_getElem hkl]; rfl
                        rw [e]
                        exact hasI_app _ _ _
                      generalize want.getD k 0 = x at *
                      generalize hasI (want.take k) u = tk at *
                      clear hbo hio
                      rcases tk with _ | _
                      · rcases hxu : (x == (u : Int)) with _ | _
                        · have HV : Hid (hasI (want.take (k + 1)) u = false) := by
                            show _ = _
                            rw [HTK.out, decide_eq_false (fun e => by rw [← e] at hxu; simp at hxu)]
                            rfl
                          go_upto_region 26 with fail
                          go_quiet (fail)
                          have HBZ := Lib.hid (bdrw HB.out nq)
                          generalize wz.drewN nq = w5x at *
                          go_wp2_with fail
                          go_roundw
                          case rel => exact ⟨k + 1, HKL.out, by go_num, by rw [HV.out], HBZ⟩
                          case measure => simp [intOf]; have := HKL.out; omega
                        · have HV : Hid (hasI (want.take (k + 1)) u = true) := by
                            show _ = _
                            rw [HTK.out, decide_eq_true (by have := eq_of_beq hxu; omega)]
                            rfl
                          go_upto_region 26 with fail
                          go_quiet (fail)
                          have HBZ := Lib.hid (bdrw HB.out nq)
                          generalize wz.drewN nq = w5x at *
                          go_wp2_with fail
                          go_roundw
                          case rel => exact ⟨k + 1, HKL.out, by go_num, by rw [HV.out], HBZ⟩
                          case measure => simp [intOf]; have := HKL.out; omega
                      · have HV : Hid (hasI (want.take (k + 1)) u = true) := by show _ = _; rw [HTK.out]; rfl
                        go_upto_region 26 with fail
                        go_quiet (fail)
                        have HBZ := Lib.hid (bdrw HB.out nq)
                        generalize wz.drewN nq = w5x at *
                        go_wp2_with fail
                        go_roundw
                        case rel => exact ⟨k + 1, HKL.out, by go_num, by rw [HV.out], HBZ⟩
                        case measure => simp [intOf]; have := HKL.out; omega
                    · obtain rfl : k = want.length := by omega
                      rw [List.take_length]
                      obtain ⟨b7, o7, hA7, _, z0⟩ := hbo.at_ hul
                      subst hA7
                      obtain ⟨wb, hwb⟩ : ∃ wb, hasI want u = wb := ⟨_, rfl⟩
                      obtain ⟨hs1, hs2⟩ := HST.out wb hwb
                      rw [hwb]
                      have HS1 := Lib.hid hs1
                      have HS2 := Lib.hid hs2
                      clear hbo hio hwb hs1 hs2
                      generalize servedB g F u = sb at *
                      rcases wb with _ | _ <;> rcases sb with _ | _
                      · go_wp2_with fail
                        go_roundw
                        case rel => exact ⟨i + 1, HLT.out, by go_num, HB, HS1.out rfl⟩
                        case measure => simp [intOf]; have := HLT.out; omega
                      · go_wp2_with (first
                          | (go_at_call 16; refine (HWK.out _).mono ?_; rintro e w19 ⟨rfl, hb19⟩; have HB19 := Lib.hid (bel_next HB.out hb19); clear hb19)
                          | fail)
                        go_ret
                        exact ⟨rfl, HXX.out _ HB19.out⟩
                      · exact absurd (HS2.out rfl) (by decide)
                      · go_wp2_with fail
                        go_roundw
                        case rel => exact ⟨i + 1, HLT.out, by go_num, HB, HS1.out rfl⟩
                        case measure => simp [intOf]; have := HLT.out; omega
                · obtain rfl : i = (rankO g).length := by omega
                  go_wp2_with (first
                    | (go_at_call 16; refine (HWK.out _).mono ?_; rintro e w19 ⟨rfl, hb19⟩; have HB19 := Lib.hid (bel_next HB.out hb19); clear hb19)
                    | fail)
                  go_ret
                  exact ⟨rfl, HXX.out _ HB19.out⟩
      · have hz' : (E2 != 0) = true := by simpa using hz2
        clear hz2
        go_wp2_with (first
          | (go_at_call 16; refine (HWK.out _).mono ?_; rintro e w12 ⟨rfl, hb12⟩; have HB12 := Lib.hid (bel_next HB9 hb12); clear hb12)
          | fail)
        go_ret
        exact ⟨rfl, (HX.out _ HB12.out).1⟩
    · have hz' : (E != 0) = true := by simpa using hz
      clear hz
      go_wp2_with (first
        | (go_at_call 16; refine (HWK.out _).mono ?_; rintro e w12 ⟨rfl, hb12⟩; have HB12 := Lib.hid (bel_next HB9 hb12); clear hb12)
        | fail)
      go_ret
      exact ⟨rfl, (HX.out _ HB12.out).1⟩
  · clear hfb hb1 hx1 h hf hw
    go_enter Try.func6, Try.ntmps6
    go_wp2_with (first
      | (go_at_call 15; refine (HLG.out _ HB0.out).mono ?_; rintro e w2 ⟨rfl, hb2⟩; have HB2 := Lib.hid hb2; clear hb2)
      | (go_at_call 16; refine (HWK.out _).mono ?_; rintro e w3 ⟨rfl, hb3⟩; have HB3 : Hid (Below w1.heap.size w1 w3) := HB2.out.trans (hb3.mono HB2.out.size); clear hb3)
      | fail)
    go_ret
    exact ⟨rfl, (HX.out _ HB3.out).1⟩
end Go.Proofs.Ytegclodchhcbaaa
