/- Walks: Narrow: the reference's. Printed by gen_nr8.py. -/
import Derived.Test.YtegclodchhcbaaaPo
import Derived.Test.YtegclodchhcbaaaCc
import Derived.Test.YtegclodchhcbaaaRp
namespace Go.Proofs.Ytegclodchhcbaaa
open Go.RowKit

def NarrowP (g : MGrid) (w : World) (e : Ending) (w' : World) : Prop :=
  Below w.heap.size w w' ∧ ((checkG g ≠ 0 ∧ e = .returned (.tuple #[.slice none 0 0, .int .i64 (checkG g)])) ∨ (checkG g = 0 ∧ ∃ (A : Option Addr) (c : Nat), e = .returned (.tuple #[.slice A (narL g g.lines.length).length c, .int .i64 0]) ∧ IntsA w' w'.heap.size A (narL g g.lines.length)))
/-- one more at a line, in memory of the call's own -/
theorem OwnG.wide {w : World} {B : Nat} {g : MGrid} {A1 A2 A3 : Option Addr} (h : OwnG w B g A1 A2 A3) {i : Nat} (hi : i < g.lines.length) : ∃ gl, A1 = some ⟨gl, 0, none⟩ ∧ B ≤ gl ∧ w.cell? ⟨gl, i * 4 + 2, none⟩ = some (.int .i64 (g.lines.getD i dLine).limit) ∧ w.frozen? ⟨gl, i * 4 + 2, none⟩ = false ∧ gl < w.heap.size ∧ (∀ b T cs fr, w.heap[b]? = some (.cells cs T fr) → T ≠ 67 → b ≠ gl) ∧
    OwnG (w.setCell ⟨gl, i * 4 + 2, none⟩ (.int .i64 ((g.lines.getD i dLine).limit + 1))) B (wider g i) A1 A2 A3 := by
  obtain ⟨gl, C, hA, hB, hh, hsz, hc⟩ := h.l (by omega)
  have hne : ∀ b T cs fr, w.heap[b]? = some (.cells cs T fr) → T ≠ 67 → b ≠ gl := fun b T cs fr hb hT e => by
    subst e
    rw [hh] at hb
    injection hb with hb
    injection hb with _ e2 _
    exact hT e2.symm
  have hl : (wider g i).lines.length = g.lines.length := by unfold wider; simp
  refine ⟨gl, hA, hB, ?_, row_frozen hh _, lt_of_cells hh, hne, ⟨fun hn => ?_, fun hn => ?_, fun hn => ?_⟩⟩
  · rw [cell_of_row w gl _ C 67 _ hh, hc i 2 hi (by decide)]
    rfl
  · refine ⟨gl, C.setIfInBounds (i * 4 + 2) (.int .i64 ((g.lines.getD i dLine).limit + 1)), hA, hB, heap_setCell_same w gl _ C 67 _ hh, by rw [hl]; simpa using hsz, fun i' j' hi' hj' => ?_⟩
    rw [hl] at hi'
    have h1 := hc i' j' hi' hj'
    have hlt : i' * 4 + j' < C.size := by
      rcases Nat.lt_or_ge (i' * 4 + j') C.size with h2 | h2
      · exact h2
      · rw [Array.getElem?_eq_none h2] at h1; cases h1
    rw [Array.getElem?_setIfInBounds]
    unfold lineCell
    rw [wider_line hi]
    by_cases e : i' = i
    · subst e
      rw [if_pos rfl]
      by_cases ej : j' = 2
      · subst ej
        rw [if_pos rfl, if_pos hlt]
        rfl
      · rw [if_neg (by omega), h1]
        unfold lineCell
        rcases (show j' = 0 ∨ j' = 1 ∨ j' = 3 by omega) with rfl | rfl | rfl <;> rfl
    · rw [if_neg (by omega), if_neg e, h1]
      rfl
  · obtain ⟨gs, C', hA', hB', hh', r⟩ := h.s hn
    exact ⟨gs, C', hA', hB', (Below.heap_setCell w ⟨gl, i * 4 + 2, none⟩ _ gs (hne gs 57 C' _ hh' (by decide))).trans hh', r⟩
  · obtain ⟨gu, C', hA', hB', hh', r⟩ := h.u hn
    exact ⟨gu, C', hA', hB', (Below.heap_setCell w ⟨gl, i * 4 + 2, none⟩ _ gu (hne gu 55 C' _ hh' (by decide))).trans hh', r⟩
set_option maxRecDepth 100000 in
set_option maxHeartbeats 8000000 in
theorem rNarrow_any (g : MGrid) (A1 A2 A3 : Option Addr) (c1 c2 c3 : Nat) (w : World) (h : GridA w w.heap.size g A1 A2 A3) :
    Calls Try.prog 43 #[.agg (gridC g A1 A2 A3 c1 c2 c3)] w (NarrowP g w) := by
  obtain ⟨w1, hw1⟩ : ∃ w1, w.alloc (.cells #[.int .i64 g.nodes, .slice A1 g.lines.length c1, .slice A2 g.srcs.length c2, .slice A3 g.users.length c3] 26) = w1 := ⟨_, rfl⟩
  have hb1 : Below w.heap.size w w1 := by rw [← hw1]; exact (Below.refl _ _).alloc (Nat.le_refl _) _
  have hs1 : w1.heap.size = w.heap.size + 1 := by rw [← hw1]; simp
  have hx1 : w1.heap[w.heap.size]? = some (.cells #[.int .i64 g.nodes, .slice A1 g.lines.length c1, .slice A2 g.srcs.length c2, .slice A3 g.users.length c3] 26 (0, 0)) := by rw [← hw1]; exact heap_alloc_new w _
  have HX : Hid (∀ W, Below w1.heap.size w1 W → Below w.heap.size w W ∧ W.cell? ⟨w.heap.size, 0, none⟩ = some (.int .i64 g.nodes) ∧ W.cell? ⟨w.heap.size, 1, none⟩ = some (.slice A1 g.lines.length c1) ∧ W.cell? ⟨w.heap.size, 2, none⟩ = some (.slice A2 g.srcs.length c2) ∧ W.cell? ⟨w.heap.size, 3, none⟩ = some (.slice A3 g.users.length c3)) := fun W hW => by
    have h1 := (hW.block w.heap.size (by omega)).trans hx1
    exact ⟨hb1.trans (hW.mono (by omega)), cell_of_row W _ 0 _ _ _ h1, cell_of_row W _ 1 _ _ _ h1, cell_of_row W _ 2 _ _ _ h1, cell_of_row W _ 3 _ _ _ h1⟩
  have HG : Hid (∀ W, Below w.heap.size w W → GridA W W.heap.size g A1 A2 A3) := fun W hW => (h.keep hW).more hW.size
  obtain ⟨_, p0, p1, p2, p3⟩ := HX.out w1 (Below.refl _ _)
  obtain ⟨E, hE⟩ : ∃ E, checkG g = E := ⟨_, rfl⟩
  have HE := Lib.hid hE
  have HCK := Lib.hid (fun W hW => rcheck_any g A1 A2 A3 c1 c2 c3 W (HG.out W hW) hE)
  have HB0 : Hid (Below w1.heap.size w1 w1) := Below.refl _ _
  unfold gridC at HCK ⊢
  clear h hb1 hx1
  by_cases hz : E = 0
  · subst hz
    obtain ⟨n, hgo⟩ := checkG_ok hE
    have hlim := checkG_lim hE
    have hnu := hgo.nu
    have hnl := hgo.nl
    have hns := hgo.ns
    have hfew := hgo.few
    have HEV : Hid (∀ W, Below w1.heap.size w1 W → Calls Try.prog 74 #[.agg (gridC g A1 A2 A3 c1 c2 c3)] W fun e w' => ∃ A c, e = .returned (.slice A g.users.length c) ∧ IntsA w' w'.heap.size A (allL g.users.length) ∧ Below W.heap.size W w') := fun W hW => everybody_any g A1 A2 A3 c1 c2 c3 W (HG.out W (HX.out W hW).1) (by omega)
    have HRM : Hid (∀ W Aw wc, Below w1.heap.size w1 W → IntsA W W.heap.size Aw (allL g.users.length) → Calls Try.prog 63 #[.agg (gridC g A1 A2 A3 c1 c2 c3), .slice none 0 0, .slice Aw g.users.length wc] W fun e w' => (∃ tb rb, e = .returned (.slice (some ⟨tb, 0, none⟩) (n + 2) (n + 2)) ∧ RTabA w' W.heap.size tb (n + 2) rb (refT g [] (allL g.users.length) n (n + 1))) ∧ Below W.heap.size W w') := fun W Aw wc hW hi => by
      have := room_any g n A1 A2 A3 c1 c2 c3 none 0 [] Aw wc (allL g.users.length) W (HG.out W (HX.out W hW).1) ⟨Nat.zero_le _, fun h => by simp at h⟩ hi hgo (allL_want g) (by rw [allL_len]; omega)
      rw [allL_len] at this
      exact this
    have HFI : Hid (∀ B tb rb W, RTabA W B tb (n + 2) rb (refT g [] (allL g.users.length) n (n + 1)) → B ≤ W.heap.size → _) := fun B tb rb W hr hB => filled_any g n [] (allL g.users.length) B tb rb W hr hB hgo (allL_want g) (by rw [allL_len]; omega)
    have HRW : Hid (∀ i, i < g.lines.length → ∀ W B1 B2 B3 d1 d2 d3 Aw wc, GridA W W.heap.size (wider g i) B1 B2 B3 → IntsA W W.heap.size Aw (allL g.users.length) → Calls Try.prog 63 #[.agg #[.int .i64 g.nodes, .slice B1 g.lines.length d1, .slice B2 g.srcs.length d2, .slice B3 g.users.length d3], .slice none 0 0, .slice Aw g.users.length wc] W fun e w' => (∃ tb rb, e = .returned (.slice (some ⟨tb, 0, none⟩) (n + 2) (n + 2)) ∧ RTabA w' W.heap.size tb (n + 2) rb (refT (wider g i) [] (allL g.users.length) n (n + 1))) ∧ Below W.heap.size W w') := fun i hi W B1 B2 B3 d1 d2 d3 Aw wc hgw hiw => by
      have hl : (wider g i).lines.length = g.lines.length := by unfold wider; simp
      have := room_any (wider g i) n B1 B2 B3 d1 d2 d3 none 0 [] Aw wc (allL g.users.length) W hgw ⟨Nat.zero_le _, fun h => by simp at h⟩ hiw (wider_ok hgo hlim hi) (allL_want g) (by rw [allL_len]; omega)
      unfold gridC at this
      rw [allL_len, hl] at this
      exact this
    have HFW : Hid (∀ i, i < g.lines.length → ∀ B tb rb W, RTabA W B tb (n + 2) rb (refT (wider g i) [] (allL g.users.length) n (n + 1)) → B ≤ W.heap.size → _) := fun i hi B tb rb W hr hB => filled_any (wider g i) n [] (allL g.users.length) B tb rb W hr hB (wider_ok hgo hlim hi) (allL_want g) (by rw [allL_len]; omega)
    have HCP : Hid (∀ W, Below w1.heap.size w1 W → Calls Try.prog 40 #[.agg (gridC g A1 A2 A3 c1 c2 c3)] W fun e w' => ∃ B1 B2 B3 d1 d2 d3, e = .returned (.agg #[.int .i64 g.nodes, .slice B1 g.lines.length d1, .slice B2 g.srcs.length d2, .slice B3 g.users.length d3]) ∧ OwnG w' W.heap.size g B1 B2 B3 ∧ Below W.heap.size W w') := fun W hW => (copy_any g A1 A2 A3 c1 c2 c3 W (HG.out W (HX.out W hW).1) ⟨by omega, by omega, by omega⟩).mono fun e w' ⟨B1, B2, B3, d1, d2, d3, he, ho, _, hb⟩ => ⟨B1, B2, B3, d1, d2, d3, he, ho, hb⟩
    have HGO := Lib.hid hgo
    have HML : Hid (∀ l ∈ g.lines, 0 ≤ l.limit ∧ l.limit ≤ 100000) := fun l hl => ⟨(hgo.line l hl).2.2.2.1, hlim l hl⟩
    unfold gridC at HEV HRM HCP
    clear hE hgo hlim
    go_enter Try.func43, Try.ntmps43
    go_wp2_with (first
      | (go_at_call 36; refine (HCK.out _ (HX.out _ (Below.refl _ _)).1).mono ?_; rintro e w2 ⟨rfl, hb2⟩; have HB2 : Below w1.heap.size w1 w2 := hb2; clear hb2 p0 p1 p2 p3; obtain ⟨_, p0, p1, p2, p3⟩ := HX.out w2 HB2)
      | (go_at_call 74; refine (HEV.out _ HB2).mono ?_; rintro e w3 ⟨Ae, ce, rfl, hi3, hb3⟩; have HI3 := Lib.hid hi3; have HB3 : Below w1.heap.size w1 w3 := bel_next HB2 hb3; clear hi3 hb3 p0 p1 p2 p3; obtain ⟨_, p0, p1, p2, p3⟩ := HX.out w3 HB3)
      | (go_at_call 63; refine (HRM.out _ Ae ce HB3 HI3.out).mono ?_; rintro e w4 ⟨⟨tb, rb, rfl, hr4⟩, hb4⟩; have HR4 := Lib.hid hr4; have KB4 := hb4; have HB4 : Below w1.heap.size w1 w4 := bel_next HB3 hb4; clear hr4 hb4 p0 p1 p2 p3)
      | (go_at_call 64; refine (HFI.out _ tb rb _ HR4.out KB4.size).mono ?_; rintro e w5 ⟨_, rfl, sum, c', R, rfl, _, _, _, hm5, hb5⟩; have HM5 := Lib.hid hm5; have KB5 : Below w3.heap.size w3 w5 := KB4.trans hb5; have HB5 : Below w1.heap.size w1 w5 := bel_next HB3 KB5; clear hm5 hb5)
      | fail)
    have HB5' : Hid (Below w1.heap.size w1 w5) := HB5
    have HO0 : Hid (OutI w5 w5.heap.size (.slice none 0 0) (narL g 0)) := OutI.nil _ _
    have HC0 : Hid (Below w5.heap.size w5 w5) := Below.refl _ _
    have HI5 : Hid (IntsA w5 w5.heap.size Ae (allL g.users.length)) := (HI3.out.below KB5 (Nat.le_refl _)).more KB5.size
    have HSZ : Hid (g.lines.length ≤ maxLen ∧ g.srcs.length ≤ maxLen ∧ g.users.length ≤ maxLen) := by
      have : (1000 : Nat) ≤ maxLen := by decide
      refine ⟨?_, ?_, ?_⟩ <;> omega
    clear HEV HRM HFI HCK HI3 HB3 HB2 HB4 KB4 KB5 HR4 HB0 HB5
    go_loopw [8, 7] (fun vi vo wr => ∃ (k : Nat) (V : Value), k ≤ g.lines.length ∧ vi = .int .i64 k ∧ V = vo ∧ Hid (OutI wr w5.heap.size V (narL g k)) ∧ Hid (Below w5.heap.size w5 wr)) (fun vi _ _ => g.lines.length - (intOf vi).toNat)
    case atStart => exact ⟨0, _, Nat.zero_le _, rfl, rfl, HO0.out, HC0.out⟩
    case round =>
      clear HO0 HC0
      obtain ⟨k, V, hk, rfl, rfl, HV, HB⟩ := hrel
      rename World => wr
      have HBr : Below w1.heap.size w1 wr := bel_next HB5'.out HB.out
      obtain ⟨_, p0, p1, p2, p3⟩ := HX.out wr HBr
      by_cases hlt : k < g.lines.length
      · have HLT := Lib.hid hlt
        go_upto_region 11 with (go_at_call 40; refine (HCP.out _ HBr).mono ?_; rintro e w6 ⟨B1, B2, B3, d1, d2, d3, rfl, ho6, hb6⟩; have HO6 := Lib.hid ho6; have HB6 := Lib.hid hb6; clear ho6 hb6)
        obtain ⟨w7, hw7⟩ : ∃ w7, w6.alloc (.cells #[.int .i64 g.nodes, .slice B1 g.lines.length d1, .slice B2 g.srcs.length d2, .slice B3 g.users.length d3] 26) = w7 := ⟨_, rfl⟩
        have hb7 : Below w6.heap.size w6 w7 := by rw [← hw7]; exact (Below.refl _ _).alloc (Nat.le_refl _) _
        have hx7 : w7.heap[w6.heap.size]? = some (.cells #[.int .i64 g.nodes, .slice B1 g.lines.length d1, .slice B2 g.srcs.length d2, .slice B3 g.users.length d3] 26 (0, 0)) := by rw [← hw7]; exact heap_alloc_new w6 _
        have ho7 : OwnG w7 wr.heap.size g B1 B2 B3 := HO6.out.keep hb7
        rw [hw7]
        clear hw7
        obtain ⟨gl, hB1, hgB, hcu, hfu, hgl, hne, ho8⟩ := ho7.wide hlt
        subst hB1
        have q1 := cell_of_row w7 _ 1 _ _ _ hx7
        simp only [List.getElem?_toArray, List.getElem?_cons_succ, List.getElem?_cons_zero] at q1
        have hml := HML.out _ (getD_in hlt dLine)
        obtain ⟨lim, hlim'⟩ : ∃ lim, (g.lines.getD k dLine).limit = lim := ⟨_, rfl⟩
        rw [hlim'] at hcu hml ho8
        have e1 : IntKind.i64.wrap (lim + 1) = lim + 1 := IntWalk.i64_in _ (by omega)
        have HX8 : Hid (∀ W, W = w7.setCell ⟨gl, k * 4 + 2, none⟩ (.int .i64 (lim + 1)) → Below wr.heap.size wr W ∧ OwnG W wr.heap.size (wider g k) (some ⟨gl, 0, none⟩) B2 B3 ∧ W.heap[w6.heap.size]? = some (.cells #[.int .i64 g.nodes, .slice (some ⟨gl, 0, none⟩) g.lines.length d1, .slice B2 g.srcs.length d2, .slice B3 g.users.length d3] 26 (0, 0))) := fun W hW => by
          subst hW
          refine ⟨(HB6.out.trans (hb7.mono HB6.out.size)).setCell (p := ⟨gl, k * 4 + 2, none⟩) hgB _, ho8, ?_⟩
          exact (Below.heap_setCell w7 ⟨gl, k * 4 + 2, none⟩ _ w6.heap.size (hne _ _ _ _ hx7 (by decide))).trans hx7
        have HCS : Hid (∀ W, W = w7.setCell ⟨gl, k * 4 + 2, none⟩ (.int .i64 (lim + 1)) → W.cell? ⟨w6.heap.size, 0, none⟩ = some (.int .i64 g.nodes) ∧ W.cell? ⟨w6.heap.size, 1, none⟩ = some (.slice (some ⟨gl, 0, none⟩) g.lines.length d1) ∧ W.cell? ⟨w6.heap.size, 2, none⟩ = some (.slice B2 g.srcs.length d2) ∧ W.cell? ⟨w6.heap.size, 3, none⟩ = some (.slice B3 g.users.length d3)) := fun W hW => by
          have h1 := (HX8.out W hW).2.2
          exact ⟨cell_of_row W _ 0 _ _ _ h1, cell_of_row W _ 1 _ _ _ h1, cell_of_row W _ 2 _ _ _ h1, cell_of_row W _ 3 _ _ _ h1⟩
        obtain ⟨r0, r1, r2, r3⟩ := HCS.out _ rfl
        have HGC := Lib.hid (fun W hW => HRW.out k hlt W (some ⟨gl, 0, none⟩) B2 B3 d1 d2 d3 Ae ce ((HX8.out W hW).2.1.grid (by unfold wider; simp; exact HSZ.out.1) HSZ.out.2.1 HSZ.out.2.2) ((HI5.out.below (HB.out.trans ((HX8.out W hW).1.mono HB.out.size)) (Nat.le_refl _)).more (Nat.le_trans HB.out.size (HX8.out W hW).1.size)))
        have HGF := Lib.hid (fun B tb rb W hr hB => HFW.out k hlt B tb rb W hr hB)
        have HB8 : Hid (∀ W, W = w7.setCell ⟨gl, k * 4 + 2, none⟩ (.int .i64 (lim + 1)) → Below w5.heap.size w5 W) := fun W hW => HB.out.trans ((HX8.out W hW).1.mono HB.out.size)
        have HV8 : Hid (∀ W, W = w7.setCell ⟨gl, k * 4 + 2, none⟩ (.int .i64 (lim + 1)) → OutI W w5.heap.size V (narL g k)) := fun W hW => own_below HV.out (HX8.out W hW).1 (fun b hb => (own_block_lt HV.out b hb).2)
        have HLN : Hid ((narL g k).length ≤ 40) := by have := narL_len g k; show _ ≤ _; omega
        clear ho8 ho7 hb7 hx7 hne hlim'
        rcases hnb : narB g k
        · have HST : Hid (narL g (k + 1) = narL g k) := by show _ = _; rw [narL, hnb]; rfl
          have HLE : Hid (∀ sum' R', MostG (wider g k) [] (allL g.users.length) n sum' R' → sum' ≤ sum) := fun sum' R' hm => by
            have := narB_wide HLT.out HM5.out hm
            rw [hnb] at this
            have := of_decide_eq_false this.symm
            omega
          clear hnb
          go_wp2_with (first
            | (go_at_call 63; refine (HGC.out _ rfl).mono ?_; rintro e w9 ⟨⟨tb9, rb9, rfl, hr9⟩, hb9⟩; have HR9 := Lib.hid hr9; have KB9 := hb9; clear hr9 hb9)
            | (go_at_call 64; refine (HGF.out _ tb9 rb9 _ HR9.out KB9.size).mono ?_; rintro e w10 ⟨_, rfl, sum', c9, R9, rfl, _, _, _, hm9, hb10⟩; have hle := HLE.out sum' R9 hm9; have KB10 := KB9.trans hb10; have HB11 : Hid (Below w5.heap.size w5 w10) := bel_next (HB8.out _ rfl) KB10; have HV11 : Hid (OutI w10 w5.heap.size V (narL g k)) := own_below (HV8.out _ rfl) KB10 (fun b hb => (own_block_lt (HV8.out _ rfl) b hb).2); clear hm9 hb10)
            | fail)
          go_roundw
          case rel => exact ⟨k + 1, _, HLT.out, by go_num, rfl, by rw [HST.out]; exact HV11.out, HB11.out⟩
          case measure => simp [intOf]; have := HLT.out; omega
        · have HST : Hid (narL g (k + 1) = narL g k ++ [(k : Int)]) := by show _ = _; rw [narL, hnb]; rfl
          have HGT : Hid (∀ sum' R', MostG (wider g k) [] (allL g.users.length) n sum' R' → sum < sum') := fun sum' R' hm => by
            have := narB_wide HLT.out HM5.out hm
            rw [hnb] at this
            exact of_decide_eq_true this.symm
          clear hnb
          generalize narL g k = L at *
          go_wp2_with (first
            | (go_at_call 63; refine (HGC.out _ rfl).mono ?_; rintro e w9 ⟨⟨tb9, rb9, rfl, hr9⟩, hb9⟩; have HR9 := Lib.hid hr9; have KB9 := hb9; clear hr9 hb9)
            | (go_at_call 64; refine (HGF.out _ tb9 rb9 _ HR9.out KB9.size).mono ?_; rintro e w10 ⟨_, rfl, sum', c9, R9, rfl, _, _, _, hm9, hb10⟩; have hgt := HGT.out sum' R9 hm9; have KB10 := KB9.trans hb10; have HB11 : Hid (Below w5.heap.size w5 w10) := bel_next (HB8.out _ rfl) KB10; have HV11 : Hid (OutI w10 w5.heap.size V L) := own_below (HV8.out _ rfl) KB10 (fun b hb => (own_block_lt (HV8.out _ rfl) b hb).2); have HA : Hid (OutI (w10.alloc (.cells #[.int .i64 k] 3)) w5.heap.size V L ∧ (w10.alloc (.cells #[.int .i64 k] 3)).cell? ⟨w10.heap.size, 0, none⟩ = some (.int .i64 k)) := ⟨own_below HV11.out ((Below.refl _ _).alloc (Nat.le_refl _) _) (fun b hb => (own_block_lt HV11.out b hb).2), newcell w10 _ 3 0⟩; have hb5s := HB11.out.size; clear hm9 hb10)
            | (at_builtin; refine app_int _ rfl _ _ rfl w5.heap.size V L rfl HA.out.1 _ k rfl HA.out.2 (by have := HLN.out; omega) (by simp; omega) ?_; intro v7 w12 hO7 hg7; have HO12 := Lib.hid hO7; have HB12 : Hid (Below w5.heap.size w5 w12) := (HB11.out.alloc HB11.out.size _).grown hg7 (by simp; omega) (fun b hb => (own_block_lt HV11.out b hb).1); clear hO7 hg7)
            | fail)
          go_roundw
          case rel => exact ⟨k + 1, _, HLT.out, by go_num, rfl, by rw [HST.out]; exact HO12.out, HB12.out⟩
          case measure => simp [intOf]; have := HLT.out; omega
      · obtain rfl : k = g.lines.length := by omega
        go_wp2_with fail
        obtain ⟨A', c', rfl, hcl, hi'⟩ := HV.out.reads
        have HI' := Lib.hid hi'
        clear hi'
        go_ret2
        exact ⟨(HX.out _ HBr).1, .inr ⟨HE.out, A', c', rfl, HI'.out⟩⟩
  · have hz' : (E != 0) = true := by simpa using hz
    have HZN : Hid (E ≠ 0) := hz
    clear hE hz
    go_enter Try.func43, Try.ntmps43
    go_wp2_with (go_at_call 36; refine (HCK.out _ (HX.out _ (Below.refl _ _)).1).mono ?_; rintro e w2 ⟨rfl, hb2⟩; have HB2 := Lib.hid hb2; clear hb2 p0 p1 p2 p3)
    go_ret2
    exact ⟨(HX.out _ HB2.out).1, .inl ⟨by rw [HE.out]; exact HZN.out, by rw [HE.out]; rfl⟩⟩
end Go.Proofs.Ytegclodchhcbaaa
