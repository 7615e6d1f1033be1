/- Law: the pairs of faults that harm a level together: Doubles walked (ours: a range over a function that collects, then all pairs), then the law. Printed by gen_dy8.py, gen_ls11.py, then merged. -/
import Derived.Test.YtegclodchhcbaaaDx
import Derived.Test.YtegclodchhcbaaaSw
namespace Go.Proofs.Ytegclodchhcbaaa
open Go.RowKit
section
open Go.Shelf
attribute [local go_sem] Oper.semAt_some

theorem not_row2 {W : World} {B : Nat} {t e : TypeId} {cs : Array Value} (h : W.heap[B]? = some (.cells cs t (0, 0))) (hte : t ≠ e) {base size k : Nat} {v : Value} {xs : List Value} (hr : W.ownsRow base e size v k xs) : some B ≠ v.ownBlock := by
  rcases hr.2 with ⟨rfl, _⟩ | ⟨g, cap, cur, rfl, _, hgb, _⟩
  · simp [Value.ownBlock]
  · intro e'
    obtain rfl : B = g := by simpa [Value.ownBlock] using e'
    have := h.symm.trans hgb
    simp at this
    exact hte this.2
set_option maxRecDepth 100000 in
set_option maxHeartbeats 4000000 in
theorem oDoubles_any (g : MGrid) (A1 A2 A3 : Option Addr) (c1 c2 c3 : Nat) (level : Int) (w : World) (h : GridA w w.heap.size g A1 A2 A3) :
    Calls Try.prog 51 #[.agg (gridC g A1 A2 A3 c1 c2 c3), .int .i64 level] w (DoubP g level w) := by
  refine (callsIn_wide (n := 5)).1 ?_
  have HG : Hid (∀ W, Below w.heap.size w W → GridA W W.heap.size g A1 A2 A3) := fun W hW => (h.keep hW).more hW.size
  obtain ⟨w1, hw1⟩ : ∃ w1, (w.alloc (.cells #[.int .i64 g.nodes, .slice A1 g.lines.length c1, .slice A2 g.srcs.length c2, .slice A3 g.users.length c3] 26)).alloc (.cells #[.int .i64 level] 3) = w1 := ⟨_, rfl⟩
  have hb1 : Below w.heap.size w w1 := by rw [← hw1]; exact ((Below.refl _ _).alloc (Nat.le_refl _) _).alloc (by simp) _
  have hs1 : w1.heap.size = w.heap.size + 2 := by rw [← hw1]; simp
  have hx1 : w1.heap[w.heap.size]? = some (.cells #[.int .i64 g.nodes, .slice A1 g.lines.length c1, .slice A2 g.srcs.length c2, .slice A3 g.users.length c3] 26 (0, 0)) := by rw [← hw1]; exact (Below.heap_alloc _ _ _ (by simp)).trans (heap_alloc_new w _)
  have hx2 : w1.heap[w.heap.size + 1]? = some (.cells #[.int .i64 level] 3 (0, 0)) := by rw [← hw1]; have := heap_alloc_new (w.alloc (.cells #[.int .i64 g.nodes, .slice A1 g.lines.length c1, .slice A2 g.srcs.length c2, .slice A3 g.users.length c3] 26)) (.cells #[.int .i64 level] 3); rwa [World.size_alloc] at this
  have HX : Hid (∀ W, Below w1.heap.size w1 W → Below w.heap.size w W ∧ W.cell? ⟨w.heap.size, 0, none⟩ = some (.int .i64 g.nodes) ∧ W.cell? ⟨w.heap.size, 1, none⟩ = some (.slice A1 g.lines.length c1) ∧ W.cell? ⟨w.heap.size, 2, none⟩ = some (.slice A2 g.srcs.length c2) ∧ W.cell? ⟨w.heap.size, 3, none⟩ = some (.slice A3 g.users.length c3) ∧ W.cell? ⟨w.heap.size + 1, 0, none⟩ = some (.int .i64 level)) := fun W hW => by
    have h1 := (hW.block w.heap.size (by omega)).trans hx1
    have h2 := (hW.block (w.heap.size + 1) (by omega)).trans hx2
    exact ⟨hb1.trans (hW.mono (by omega)), cell_of_row W _ 0 _ _ _ h1, cell_of_row W _ 1 _ _ _ h1, cell_of_row W _ 2 _ _ _ h1, cell_of_row W _ 3 _ _ _ h1, cell_of_row W _ 0 _ _ _ h2⟩
  obtain ⟨E, hE⟩ : ∃ E, levelG g level = E := ⟨_, rfl⟩
  have HE := Lib.hid hE
  have HCK := Lib.hid (checkLevel_any g A1 A2 A3 c1 c2 c3 level w1 (HG.out _ hb1))
  rw [hE] at HCK
  have HEV := Lib.hid (fun W => everything_any g A1 A2 A3 c1 c2 c3 W)
  by_cases hz : E = 0
  · subst hz
    clear hE
    obtain ⟨n, hok⟩ := checkG_ok (levelG_ok HE.out).1
    have HOK := Lib.hid hok
    have HN : Hid ((allF g n).length ≤ 300) := by
      show _ ≤ _
      rw [allF_len]
      have := hok.few; have := hok.ns; have := hok.nl
      omega
    have HIT := Lib.hid (fun bx n₀ W hbx => every_stops 4 (by decide) g n hok.nodes (by have := hok.ns; omega) (by have := hok.nl; omega) (by have := hok.few; omega) A1 A2 A3 c1 c2 c3 bx n₀ W hbx)
    have HH : Hid (∀ x W b, harmB g [x] level = b → Below w.heap.size w W → Calls Try.prog 81 #[.agg (gridC g A1 A2 A3 c1 c2 c3), .int .i64 level, .slice (some ⟨W.heap.size, 0, none⟩) 1 1] (W.alloc (.cells #[.int .i64 x.kind, .int .i64 x.number] 41)) fun e w' => e = .returned (.bool b) ∧ Below (W.heap.size + 1) (W.alloc (.cells #[.int .i64 x.kind, .int .i64 x.number] 41)) w') := fun x W b hb hW => by
      have := harm_any g A1 A2 A3 c1 c2 c3 (some ⟨W.heap.size, 0, none⟩) 1 [x] level (W.alloc (.cells #[.int .i64 x.kind, .int .i64 x.number] 41)) (HG.out _ (hW.alloc hW.size _)) (faults_one W x) HOK.out hb
      rwa [World.size_alloc] at this
    unfold gridC at HCK HEV HIT HH ⊢
    refine callsIn_of_wp_marks Try.func51 rfl trivial ?_ rfl
    simp only [Try.ntmps51, List.size_toArray, List.length_cons, List.length_nil, Nat.reduceAdd, Nat.reduceSub, Array.replicate_succ, Array.replicate_zero, List.push_toArray, List.append_toArray, List.nil_append, List.cons_append]
    obtain ⟨_, p0, p1, p2, p3, p4⟩ := HX.out w1 (Below.refl _ _)
    clear hok hb1 hx1 hx2
    gi_wp2_with (first
      | (refine ⟨trivial, ?_⟩; gi_at_call 79; (try rw [hw1]); refine (callsIn_wide.2 HCK.out).mono ?_; rintro e w2 ⟨rfl, hb2⟩; have HB2 := Lib.hid hb2; clear p0 p1 p2 p3 p4 hb2; obtain ⟨_, p0, p1, p2, p3, p4⟩ := HX.out (w2.alloc (.cells #[.slice none 0 0] 27)) (HB2.out.alloc HB2.out.size _))
      | (refine ⟨trivial, ?_⟩; gi_at_call 80; refine (callsIn_wide.2 (HEV.out _)).mono ?_; rintro e w3 ⟨rfl, rfl⟩)
      | fail)
    have hs2 := HB2.out.size
    obtain ⟨W0, hW0⟩ : ∃ W0, (w2.alloc (.cells #[.slice none 0 0] 27)).alloc (.cells #[.int .i64 g.nodes, .slice A1 g.lines.length c1, .slice A2 g.srcs.length c2, .slice A3 g.users.length c3] 26) = W0 := ⟨_, rfl⟩
    have bO : Boxed W0 w2.heap.size 27 (.slice none 0 0) := by rw [← hW0]; exact (Boxed.new w2 27 (.slice none 0 0)).alloc _
    have bG : W0.heap[w2.heap.size + 1]? = some (.cells #[.int .i64 g.nodes, .slice A1 g.lines.length c1, .slice A2 g.srcs.length c2, .slice A3 g.users.length c3] 26 (0, 0)) := by rw [← hW0]; have := heap_alloc_new (w2.alloc (.cells #[.slice none 0 0] 27)) (.cells #[.int .i64 g.nodes, .slice A1 g.lines.length c1, .slice A2 g.srcs.length c2, .slice A3 g.users.length c3] 26); rwa [World.size_alloc] at this
    have hsz : W0.heap.size = w2.heap.size + 2 := by rw [← hW0]; simp
    have HB0 : Hid (Below w1.heap.size w1 W0) := by rw [← hW0]; exact (HB2.out.alloc hs2 _).alloc (by simp; omega) _
    (try rw [hW0])
    clear hW0 p0 p1 p2 p3 p4
    refine wpIn_rangeFunc_ownH rfl (by decide) (gf := 100) (lb := #[.pointer (some ⟨w2.heap.size + 1, 0, none⟩)]) rfl trivial (enters_of Try.func100 (by kernel_rfl) rfl)
      (HIT.out (w2.heap.size + 1) w1.heap.size W0 bG) belowK_t (belowK_b (by omega)) (Below.refl _ _) (fun _ => rfl)
      (fun pre W => (∃ v, Boxed W w2.heap.size 27 v ∧ W.ownsRow w1.heap.size 41 2 v (collH g level false pre).length (rowL (collH g level false pre).length 2 (faultCell (collH g level false pre))) ∧ True) ∧ Below w1.heap.size w1 W)
      (fun _ _ _ => False)
      (OwnFrom.and (Own.from (holdsRow_own w1.heap.size w2.heap.size 27 41 2 (fun pre => (collH g level false pre).length) (fun pre => rowL (collH g level false pre).length 2 (faultCell (collH g level false pre))) (fun _ _ => True)) _) (ownFrom_below (Nat.le_refl _) (by omega)))
      (fun _ _ _ _ _ hs _ _ => hs)
      ⟨⟨_, bO, ⟨rowL_len _ _ _, .inl ⟨rfl, rfl⟩⟩, trivial⟩, HB0.out⟩
      (fun x a' W => ∃ Bx, w2.heap.size < Bx ∧ W.heap[Bx]? = some (.cells #[.int .i64 x.kind, .int .i64 x.number] 41 (0, 0)) ∧ a' = { tmps := #[.agg #[.int .i64 g.nodes, .slice A1 g.lines.length c1, .slice A2 g.srcs.length c2, .slice A3 g.users.length c3], .int .i64 level, .pointer (some ⟨w.heap.size, 0, none⟩), .pointer (some ⟨w.heap.size + 1, 0, none⟩), .slice none 0 0, .int .i64 0, .int .i64 0, .pointer (some ⟨w2.heap.size, 0, none⟩), .pointer (some ⟨Bx, 0, none⟩), undef, undef, undef, undef, undef, .agg #[.int .i64 g.nodes, .slice A1 g.lines.length c1, .slice A2 g.srcs.length c2, .slice A3 g.users.length c3], .int .i64 level, .int .i64 0, .int .i64 0, .bool false, undef, .agg #[.int .i64 g.nodes, .slice A1 g.lines.length c1, .slice A2 g.srcs.length c2, .slice A3 g.users.length c3], .func (.func 100) #[] #[.pointer (some ⟨w2.heap.size + 1, 0, none⟩)], .agg #[.int .i64 x.kind, .int .i64 x.number], undef, undef, undef, undef, undef, undef, undef, undef, undef, undef, undef, undef, undef, undef, undef, undef, undef, undef, undef, undef, undef, undef, undef, undef, undef, undef, undef, undef, undef, undef, undef, undef, undef, undef, undef, undef, undef, undef, undef, undef, undef], defers := [] })
      (fun x a' _ X Y row hs hg hr => by obtain ⟨Bx, h1, h2, h3⟩ := hs; exact ⟨Bx, h1, (hg.block Bx (lt_of_cells h2) (fun e => by obtain ⟨_, o, ho, hc⟩ := hr Bx e.symm; rw [h2] at ho; cases ho; cases hc)).trans h2, h3⟩)
      ?assign ?body ?done ?stop
    case assign =>
      rintro l pre x W K ⟨⟨v, bV, hrow, _⟩, hB1⟩ hK
      unfold encF
      gi_wp2
      refine hK _ _ ((KeepsOthers.alloc _ _).from _) ((Below.refl _ W).alloc hB1.size _) ⟨⟨v, bV.alloc _, hrow.alloc _, trivial⟩, hB1.alloc hB1.size _⟩ ⟨W.heap.size, bV.lt, heap_alloc_new _ _, rfl⟩
    case body =>
      rintro l pre x a' W hl ⟨r, hr⟩ ⟨⟨v, bV, hrow, _⟩, hB1⟩ ⟨Bx, hBx, bX, rfl⟩ hlt
      obtain ⟨_, p0, p1, p2, p3, p4⟩ := HX.out W hB1
      obtain ⟨b, hb⟩ : ∃ b, harmB g [x] level = b := ⟨_, rfl⟩
      have HHB := Lib.hid hb
      have hC := Lib.hid (HH.out x W b hb (HX.out W hB1).1)
      have hx0 := cell_of_row W Bx 0 _ _ _ bX
      have hx1 := cell_of_row W Bx 1 _ _ _ bX
      simp only [List.getElem?_toArray, List.getElem?_cons_succ, List.getElem?_cons_zero] at hx0 hx1
      clear hb
      have HW := Lib.hid hB1
      have HBV := Lib.hid bV
      have HRW := Lib.hid hrow
      have hc0 := bV.cell
      clear hB1 hrow bV hr
      have HL : Hid ((collH g level false pre).length ≤ 1000) := by
        show _ ≤ _
        have := collH_len g level false pre
        have := HN.out
        omega
      have hBxl := lt_of_cells bX
      cases b with
      | false =>
        gi_wp2_with (first
          | (refine ⟨trivial, ?_⟩; gi_at_call 81; refine (CallsIn.inRound l (callsIn_wide.2 hC.out)).mono ?_; rintro e w3 ⟨rfl, hb3⟩; have HB3 : Hid (Below W.heap.size W w3) := ((Below.refl _ W).alloc (Nat.le_refl _) _).trans (hb3.mono (by omega)); clear hb3; have hd0 := (HB3.out.cell (p := ⟨Bx, 0, none⟩) hBxl).trans hx0; have hd1 := (HB3.out.cell (p := ⟨Bx, 1, none⟩) hBxl).trans hx1; have hdc := (boxed_below HBV.out HB3.out).cell; have HR3 : Hid (OutF w3 w1.heap.size v (collH g level false pre)) := own_below HRW.out HB3.out (fun b hb => (own_block_lt HRW.out b hb).2); have HA3 : Hid (OutF (w3.alloc (.cells #[.int .i64 x.kind, .int .i64 x.number] 41)) w1.heap.size v (collH g level false pre)) := own_below HR3.out ((Below.refl _ _).alloc (Nat.le_refl _) _) (fun b hb => (own_block_lt HR3.out b hb).2))
          | (gi_at_builtin; refine app_faultIn _ rfl _ _ rfl w1.heap.size v (collH g level false pre) rfl HA3.out w3.heap.size x rfl (heap_alloc_new w3 _) HL.out (by have := HW.out.size; have := HB3.out.size; simp; omega) ?_; intro v6 w6 hO6 hg6; unfold OutF at hO6; rw [List.length_append] at hO6; obtain ⟨g6, c6, rfl⟩ := ownsRow_succ hO6; obtain ⟨hv1, hv2, hr2, hk2, hb2⟩ := (boxed_below HBV.out HB3.out).appended (by decide) HR3.out (by have := HW.out.size; have := HB3.out.size; omega) (by omega) hO6 hg6; have hc6 := hv1.cell; have hf6 := hv1.frozen; have HV2 := Lib.hid hv2; have HR2 := Lib.hid hr2; have HK2 := Lib.hid hk2; have HB2b := Lib.hid hb2; clear hv1 hv2 hr2 hk2 hb2 hO6 hg6)
          | fail)
        have hbl : Below w1.heap.size W w3 := HB3.out.mono HW.out.size
        exact ⟨((keepsOthers_below HB3.out).trans HK2.out).from _, hbl.trans HB2b.out, ⟨⟨_, HV2.out, by rw [collH_hit (y := false) HHB.out, List.length_append]; exact HR2.out, trivial⟩, (HW.out.trans hbl).trans HB2b.out⟩⟩
      | true =>
        gi_wp2_with (first
          | (refine ⟨trivial, ?_⟩; gi_at_call 81; refine (CallsIn.inRound l (callsIn_wide.2 hC.out)).mono ?_; rintro e w3 ⟨rfl, hb3⟩; have HB3 : Hid (Below W.heap.size W w3) := ((Below.refl _ W).alloc (Nat.le_refl _) _).trans (hb3.mono (by omega)); clear hb3)
          | fail)
        have hbl : Below w1.heap.size W w3 := HB3.out.mono HW.out.size
        exact ⟨(keepsOthers_below HB3.out).from _, hbl, ⟨⟨v, boxed_below HBV.out HB3.out, by rw [collH_miss (y := false) HHB.out]; exact own_below HRW.out HB3.out (fun b hb => (own_block_lt HRW.out b hb).2), trivial⟩, HW.out.trans hbl⟩⟩
    case done =>
      rintro D ys wd hD rfl ⟨⟨v, bV, hrow, _⟩, hB1⟩ hK
      have HBD := Lib.hid hB1
      have hDl : D < wd.heap.size := (Array.getElem?_eq_some_iff.1 hK).1
      have HKD : Hid (∀ W, Below wd.heap.size wd W → W.heap[D]? = some (.deferred (some []))) := fun W hW => (hW.block D hDl).trans hK
      have hml : (collH g level false (allF g n)).length ≤ 66 := by
        have h1 := collH_len g level false (allF g n)
        rw [allF_len] at h1
        have := HOK.out.few; have := HOK.out.ns; have := HOK.out.nl
        omega
      have HF0 : OutF wd w1.heap.size v (collH g level false (allF g n)) := hrow
      obtain ⟨M, hM⟩ : ∃ M, collH g level false (allF g n) = M := ⟨_, rfl⟩
      rw [hM] at hml HF0
      have HM := Lib.hid hM
      have HML := Lib.hid hml
      obtain ⟨A, ca, rfl, hca, hfa⟩ := HF0.reads (by unfold maxLen; omega)
      have HXD : Hid (∀ W, Below wd.heap.size wd W → (W.cell? ⟨w2.heap.size, 0, none⟩ = some (.slice A M.length ca)) ∧ FaultsA W W.heap.size A M) := fun W hW => ⟨(boxed_below bV hW).cell, (hfa.keep hW).more hW.size⟩
      have HXG : Hid (∀ W, Below wd.heap.size wd W → Below w1.heap.size w1 W) := fun W hW => HBD.out.trans (hW.mono HBD.out.size)
      have HH2 : Hid (∀ W x y b, harmB g [x, y] level = b → Below w.heap.size w W → Calls Try.prog 81 #[.agg #[.int .i64 g.nodes, .slice A1 g.lines.length c1, .slice A2 g.srcs.length c2, .slice A3 g.users.length c3], .int .i64 level, .slice (some ⟨W.heap.size, 0, none⟩) 2 2] (W.alloc (.cells #[.int .i64 x.kind, .int .i64 x.number, .int .i64 y.kind, .int .i64 y.number] 41)) fun e w' => e = .returned (.bool b) ∧ Below (W.heap.size + 1) (W.alloc (.cells #[.int .i64 x.kind, .int .i64 x.number, .int .i64 y.kind, .int .i64 y.number] 41)) w') := fun W x y b hb hW => by
        have := harm_any g A1 A2 A3 c1 c2 c3 (some ⟨W.heap.size, 0, none⟩) 2 [x, y] level (W.alloc (.cells #[.int .i64 x.kind, .int .i64 x.number, .int .i64 y.kind, .int .i64 y.number] 41)) (HG.out _ (hW.alloc hW.size _)) (faults_two W x y) HOK.out hb
        rwa [World.size_alloc] at this
      have HR0 : Hid (OutD wd wd.heap.size (.slice none 0 0) (doubL g level M 0)) := ⟨rowL_len _ _ _, .inl ⟨rfl, rfl⟩⟩
      have HC0 : Hid (Below wd.heap.size wd wd) := Below.refl _ _
      have hc := (HXD.out wd HC0.out).1
      clear hrow hB1 bV hM HH HIT HCK HEV hK hfa
      gi_wp2
      gi_loopw [9, 35] (fun vo vi wr => ∃ (i : Nat) (V : Value), i ≤ M.length ∧ vi = .int .i64 i ∧ V = vo ∧ Hid (OutD wr wd.heap.size V (doubL g level M i)) ∧ Hid (Below wd.heap.size wd wr)) (fun _ vi _ => M.length - (intOf vi).toNat)
      case atStart => exact ⟨0, _, Nat.zero_le _, rfl, rfl, HR0.out, HC0.out⟩
      case round =>
        clear HR0 HC0 hc
        obtain ⟨i, V, hi, rfl, rfl, HV, HB⟩ := hrel
        rename World => wr
        obtain ⟨hc, hfw⟩ := HXD.out wr HB.out
        by_cases hlt : i < M.length
        · have HLT := Lib.hid hlt
          obtain ⟨fb, off, hA, hfb, _, f0, f1⟩ := fault_one hfw hlt
          subst hA
          obtain ⟨x, hx⟩ : ∃ x, M.getD i dFault = x := ⟨_, rfl⟩
          rw [hx] at f0 f1
          have HXX := Lib.hid hx
          have hbs := HB.out.size
          have hi1 : (i : Int) + 1 ≤ 66 := by omega
          obtain ⟨w4, hw4⟩ : ∃ w4, wr.alloc (.cells #[.int .i64 x.kind, .int .i64 x.number] 41) = w4 := ⟨_, rfl⟩
          have HB4 : Hid (Below wd.heap.size wd w4) := by rw [← hw4]; exact HB.out.alloc hbs _
          have HV4 : Hid (OutD w4 wd.heap.size V (doubL g level M i ++ rowD g level M i 0)) := by
            show OutD _ _ _ _
            rw [show rowD g level M i 0 = [] from rfl, List.append_nil, ← hw4]
            exact own_below HV.out ((Below.refl _ _).alloc (Nat.le_refl _) _) (fun b hb => (own_block_lt HV.out b hb).2)
          have HA4 : Hid (w4.heap[wr.heap.size]? = some (.cells #[.int .i64 x.kind, .int .i64 x.number] 41 (0, 0))) := by rw [← hw4]; exact heap_alloc_new wr _
          have hc4 := (HXD.out w4 HB4.out).1
          have r1 : (0 : Int) ≤ (i : Int) + 1 := by omega
          have r2 : (i : Int) + 1 ≤ (M.length : Int) := by omega
          have r3 : (M.length : Int) ≤ (ca : Int) := by omega
          have r4 : ((i : Int) + 1).toNat = i + 1 := by omega
          by_cases hlast : i + 1 < M.length
          · have r5 : ¬ ca = i + 1 := by omega
            gi_wp2
            clear hw4 hc4 r1 r2 r3 r4 r5 hc f0 f1 HV hx
            gi_loopw [9, 45] (fun vo vk wy => ∃ (k : Nat) (V : Value), k ≤ M.length - (i + 1) ∧ vk = .int .i64 k ∧ V = vo ∧ Hid (OutD wy wd.heap.size V (doubL g level M i ++ rowD g level M i k)) ∧ Hid (wy.heap[wr.heap.size]? = some (.cells #[.int .i64 x.kind, .int .i64 x.number] 41 (0, 0))) ∧ Hid (Below wd.heap.size wd wy)) (fun _ vk _ => M.length - (i + 1) - (intOf vk).toNat)
            case atStart => exact ⟨0, V, Nat.zero_le _, rfl, rfl, HV4.out, HA4.out, HB4.out⟩
            case round =>
              clear HV4 HA4 HB4 HB
              obtain ⟨k, V, hk, rfl, rfl, HV, HA, HB⟩ := hrel
              rename World => wy
              by_cases hkt : k < M.length - (i + 1)
              · have HKT := Lib.hid hkt
                obtain ⟨fb', off', hA', hfb', _, h0, h1⟩ := fault_one (HXD.out wy HB.out).2 (show i + 1 + k < M.length by omega)
                obtain ⟨rfl, rfl⟩ : fb = fb' ∧ off = off' := by simpa using hA'
                clear hA' hfb'
                rw [show off + (i + 1 + k) * 2 = off + (i + 1) * 2 + k * 2 by omega] at h0 h1
                obtain ⟨y, hy⟩ : ∃ y, M.getD (i + 1 + k) dFault = y := ⟨_, rfl⟩
                rw [hy] at h0 h1
                obtain ⟨hb, hhb⟩ : ∃ hb, harmB g [x, y] level = hb := ⟨_, rfl⟩
                have HST : Hid (doubL g level M i ++ rowD g level M i (k + 1) = (doubL g level M i ++ rowD g level M i k) ++ if hb = true then [(x, y)] else []) := by show _ = _; rw [rowD, hy, HXX.out, hhb, List.append_assoc]
                have HLN : Hid ((doubL g level M i ++ rowD g level M i k).length ≤ 100000) := by
                  show _ ≤ _
                  have e1 := doubL_len g level M i
                  have e2 := rowD_len g level M i k
                  have e3 : i * M.length ≤ 66 * 66 := Nat.mul_le_mul (by have := HLT.out; have := HML.out; omega) HML.out
                  have e4 := HML.out
                  rw [List.length_append]
                  omega
                generalize doubL g level M i ++ rowD g level M i k = Q at *
                obtain ⟨w5, hw5⟩ : ∃ w5, wy.alloc (.cells #[.int .i64 y.kind, .int .i64 y.number] 41) = w5 := ⟨_, rfl⟩
                obtain ⟨w6, hw6⟩ : ∃ w6, w5.alloc (.cells #[.int .i64 x.kind, .int .i64 x.number, .int .i64 y.kind, .int .i64 y.number] 41) = w6 := ⟨_, rfl⟩
                have HS5 : Hid (w5.heap.size = wy.heap.size + 1) := by show _ = _; rw [← hw5]; simp
                have hy5 : Below wy.heap.size wy w5 := by rw [← hw5]; exact (Below.refl _ _).alloc (Nat.le_refl _) _
                have HY6 : Hid (Below wy.heap.size wy w6) := by rw [← hw6]; exact hy5.alloc (by have := HS5.out; omega) _
                have HC : Hid (Calls Try.prog 81 #[.agg #[.int .i64 g.nodes, .slice A1 g.lines.length c1, .slice A2 g.srcs.length c2, .slice A3 g.users.length c3], .int .i64 level, .slice (some ⟨w5.heap.size, 0, none⟩) 2 2] w6 fun e w' => e = .returned (.bool hb) ∧ Below (w5.heap.size + 1) w6 w') := by
                  rw [← hw6]
                  exact HH2.out w5 x y hb hhb (HX.out _ (HXG.out _ (bel_next HB.out hy5))).1
                obtain ⟨_, g0, g1, g2, g3, g4⟩ := HX.out w5 (HXG.out _ (bel_next HB.out hy5))
                have hx5 : w5.heap[wr.heap.size]? = some (.cells #[.int .i64 x.kind, .int .i64 x.number] 41 (0, 0)) := (hy5.block _ (lt_of_cells HA.out)).trans HA.out
                have a0 := cell_of_row w5 _ 0 _ _ _ hx5
                have a1 := cell_of_row w5 _ 1 _ _ _ hx5
                have hz5 : w5.heap[wy.heap.size]? = some (.cells #[.int .i64 y.kind, .int .i64 y.number] 41 (0, 0)) := by rw [← hw5]; exact heap_alloc_new wy _
                have b0 := cell_of_row w5 _ 0 _ _ _ hz5
                have b1 := cell_of_row w5 _ 1 _ _ _ hz5
                simp only [List.getElem?_toArray, List.getElem?_cons_succ, List.getElem?_cons_zero] at a0 a1 b0 b1
                clear hx5 hy hhb hy5
                have HZ6 : Hid (w6.heap[wy.heap.size]? = some (.cells #[.int .i64 y.kind, .int .i64 y.number] 41 (0, 0))) := by rw [← hw6]; exact (Below.heap_alloc w5 _ _ (lt_of_cells hz5)).trans hz5
                clear hz5
                cases hb with
                | false =>
                  gi_wp2_with (first
                    | (refine ⟨trivial, ?_⟩; gi_at_call 81; (try rw [hw6]); refine (callsIn_wide.2 HC.out).mono ?_; rintro e w7 ⟨rfl, hb7⟩; have HB7 : Hid (Below wy.heap.size wy w7) := HY6.out.trans (hb7.mono (by rw [HS5.out]; omega)); clear hb7 g0 g1 g2 g3 g4 a0 a1 b0 b1 hw5 hw6; have HBd7 : Hid (Below wd.heap.size wd w7) := bel_next HB.out HB7.out; have HA7 : Hid (w7.heap[wr.heap.size]? = some (.cells #[.int .i64 x.kind, .int .i64 x.number] 41 (0, 0))) := (HB7.out.block _ (lt_of_cells HA.out)).trans HA.out; have HV7 : Hid (OutD w7 wd.heap.size V Q) := own_below HV.out HB7.out (fun b hb => (own_block_lt HV.out b hb).2))
                    | fail)
                  refine ⟨⟨k + 1, V, HKT.out, by go_num, rfl, by rw [HST.out, if_neg (by decide), List.append_nil]; exact HV7.out, HA7.out, HBd7.out⟩, ?_⟩
                  simp [intOf]; have := HKT.out; omega
                | true =>
                  gi_wp2_with (first
                    | (refine ⟨trivial, ?_⟩; gi_at_call 81; (try rw [hw6]); refine (callsIn_wide.2 HC.out).mono ?_; rintro e w7 ⟨rfl, hb7⟩; have HB7 : Hid (Below wy.heap.size wy w7) := HY6.out.trans (hb7.mono (by rw [HS5.out]; omega)); have hz7 := (hb7.block wy.heap.size (by rw [HS5.out]; omega)).trans HZ6.out; clear hb7 g0 g1 g2 g3 g4 a0 a1 b0 b1 hw5 hw6; have HBd7 : Hid (Below wd.heap.size wd w7) := bel_next HB.out HB7.out; have HA7 : Hid (w7.heap[wr.heap.size]? = some (.cells #[.int .i64 x.kind, .int .i64 x.number] 41 (0, 0))) := (HB7.out.block _ (lt_of_cells HA.out)).trans HA.out; have HV7 : Hid (OutD w7 wd.heap.size V Q) := own_below HV.out HB7.out (fun b hb => (own_block_lt HV.out b hb).2); have a0 := cell_of_row w7 _ 0 _ _ _ HA7.out; have a1 := cell_of_row w7 _ 1 _ _ _ HA7.out; have b0 := cell_of_row w7 _ 0 _ _ _ hz7; have b1 := cell_of_row w7 _ 1 _ _ _ hz7; simp only [List.getElem?_toArray, List.getElem?_cons_succ, List.getElem?_cons_zero] at a0 a1 b0 b1; clear hz7; have HV8 : Hid (OutD (w7.alloc (.cells #[.int .i64 x.kind, .int .i64 x.number, .int .i64 y.kind, .int .i64 y.number] 79)) wd.heap.size V Q) := own_below HV7.out ((Below.refl _ _).alloc (Nat.le_refl _) _) (fun b hb => (own_block_lt HV7.out b hb).2))
                    | (gi_at_builtin; refine app_pairIn _ rfl _ _ rfl wd.heap.size V Q rfl HV8.out w7.heap.size (x, y) rfl (heap_alloc_new w7 _) HLN.out (by have := HBd7.out.size; simp; omega) ?_; intro v9 w9 hO9 hg9; have HO9 := Lib.hid hO9; have HB9 : Hid (Below wd.heap.size wd w9) := (HBd7.out.alloc HBd7.out.size _).grown hg9 (by have := HBd7.out.size; simp; omega) (fun b hb => (own_block_lt HV7.out b hb).1); have HA9 : Hid (w9.heap[wr.heap.size]? = some (.cells #[.int .i64 x.kind, .int .i64 x.number] 41 (0, 0))) := (hg9.block _ (by have := lt_of_cells HA7.out; simp; omega) (not_row2 HA7.out (by decide) HV7.out)).trans ((Below.heap_alloc w7 _ _ (lt_of_cells HA7.out)).trans HA7.out); clear hO9 hg9)
                    | fail)
                  refine ⟨⟨k + 1, v9, HKT.out, by go_num, rfl, by rw [HST.out, if_pos trivial]; exact HO9.out, HA9.out, HB9.out⟩, ?_⟩
                  simp [intOf]; have := HKT.out; omega
              · obtain rfl : k = M.length - (i + 1) := by omega
                gi_wp2
                go_roundw
                case rel => exact ⟨i + 1, V, HLT.out, by go_num, rfl, by rw [doubL]; exact HV.out, HB.out⟩
                case measure => simp [intOf]; have := HLT.out; omega
          · have hmi : M.length = i + 1 := by omega
            have hm0 : M.length - (i + 1) = 0 := by omega
            have HMI := Lib.hid hmi
            by_cases r5 : ca = i + 1 <;> (
              gi_wp2
              clear hw4 hc4 r1 r2 r3 r4 r5 hc f0 f1 HV hx hmi
              gi_loopw [9, 45] (fun vo vk wy => ∃ (V : Value), vk = .int .i64 (0 : Nat) ∧ V = vo ∧ Hid (OutD wy wd.heap.size V (doubL g level M i ++ rowD g level M i 0)) ∧ Hid (Below wd.heap.size wd wy)) (fun _ _ _ => 0)
              case atStart => exact ⟨V, rfl, rfl, HV4.out, HB4.out⟩
              case round =>
                clear HV4 HA4 HB4 HB
                obtain ⟨V, rfl, rfl, HV, HB⟩ := hrel
                rename World => wy
                gi_wp2
                go_roundw
                case rel => exact ⟨i + 1, V, by have := HMI.out; omega, by go_num, rfl, by rw [doubL, show M.length - (i + 1) = 0 by have := HMI.out; omega]; exact HV.out, HB.out⟩
                case measure => simp [intOf]; have := HMI.out; omega)
        · obtain rfl : i = M.length := by omega
          gi_wp2
          refine ⟨by simp, .inl ⟨_, _, rfl, run_takeDeferred (HKD.out wr HB.out), ?_⟩⟩
          refine ⟨_, results_tmp2 rfl _ _ _, ?_⟩
          have hbD : Below w.heap.size w (wr.putObj D (.deferred none)) := (HX.out wr (HXG.out wr HB.out)).1.trans (belowK_b (w := w) (Nat.le_refl _) wr D _ _ (by omega) (HKD.out wr HB.out) rfl rfl)
          exact ⟨hbD, .inr ⟨HE.out, n, V, HOK.out, rfl, by rw [HM.out]; exact own_base (ownsRow_putObj HV.out _ (HKD.out wr HB.out) rfl) (by have := HBD.out.size; omega)⟩⟩
    case stop =>
      rintro D c pre W _ _ h _
      exact h.elim
  · unfold gridC at HCK ⊢
    refine callsIn_of_wp_marks Try.func51 rfl trivial ?_ rfl
    simp only [Try.ntmps51, List.size_toArray, List.length_cons, List.length_nil, Nat.reduceAdd, Nat.reduceSub, Array.replicate_succ, Array.replicate_zero, List.push_toArray, List.append_toArray, List.nil_append, List.cons_append]
    obtain ⟨_, p0, p1, p2, p3, p4⟩ := HX.out w1 (Below.refl _ _)
    gi_wp2_with (first
      | (refine ⟨trivial, ?_⟩; gi_at_call 79; (try rw [hw1]); refine (callsIn_wide.2 HCK.out).mono ?_; rintro e w2 ⟨rfl, hb2⟩; have HB2 := Lib.hid hb2; clear p0 p1 p2 p3 p4 hb2)
      | fail)
    refine ⟨_, results_tmp2 rfl _ _ _, ?_⟩
    exact ⟨(HX.out _ HB2.out).1, .inl ⟨by rw [HE.out]; exact hz, by rw [HE.out]; rfl⟩⟩
end

theorem few_far {g : MGrid} (h : farB g = false) : FewG g := by
  unfold farB at h
  simp only [Bool.or_eq_false_iff, decide_eq_false_iff_not] at h
  exact ⟨by omega, by omega, by omega⟩
theorem grid_same {g : MGrid} {n n' : Nat} (h : GridOk g n) (h' : GridOk g n') : n = n' := by
  have h1 := h.nodes
  have h2 := h'.nodes
  omega
theorem small_far {g : MGrid} (h : smallB g = true) : farB g = false := by
  unfold smallB at h
  simp only [Bool.and_eq_true, Bool.not_eq_true'] at h
  exact h.1
theorem doubles_det (g : MGrid) (level : Int) : ∃ L : List (MFault × MFault), L.length ≤ 4356 ∧ ∀ w e w', DoubP g level w e w' → (∃ A c, e = .returned (.tuple #[.slice A L.length c, .int .i64 (levelG g level)]) ∧ PairsA w' w'.heap.size A L) ∧ Below w.heap.size w w' := by
  by_cases h : levelG g level = 0
  · obtain ⟨n, hg⟩ := checkG_ok (levelG_ok h).1
    have hl : (doubL g level (collH g level false (allF g n)) (collH g level false (allF g n)).length).length ≤ 4356 := by
      have h1 := collH_len g level false (allF g n)
      rw [allF_len] at h1
      have := hg.few; have := hg.ns; have := hg.nl
      have h2 := doubL_len g level (collH g level false (allF g n)) (collH g level false (allF g n)).length
      have h3 : (collH g level false (allF g n)).length * (collH g level false (allF g n)).length ≤ 66 * 66 := Nat.mul_le_mul (by omega) (by omega)
      omega
    refine ⟨_, hl, fun w e w' ⟨hb, hp⟩ => ⟨?_, hb⟩⟩
    rcases hp with ⟨k, _⟩ | ⟨_, n', v, hg', he, ho⟩
    · exact absurd h k
    · obtain rfl := grid_same hg hg'
      obtain ⟨A, c, rfl, _, hi⟩ := ho.reads (by unfold maxLen; omega)
      exact ⟨A, c, by rw [he, h], hi⟩
  · refine ⟨[], by simp, fun w e w' ⟨hb, hp⟩ => ⟨?_, hb⟩⟩
    rcases hp with ⟨_, he⟩ | ⟨k, _⟩
    · exact ⟨none, 0, he, Nat.zero_le _, fun h => by simp at h⟩
    · exact absurd k h
theorem PairsA.more {w : World} {B B' : Nat} {A : Option Addr} {l : List (MFault × MFault)} (h : PairsA w B A l) (hB : B ≤ B') : PairsA w B' A l := ⟨h.1, h.2.more' hB⟩
theorem PairsA.keep {w w' : World} {B : Nat} {A : Option Addr} {l : List (MFault × MFault)} (h : PairsA w B A l) (hb : Below B w w') : PairsA w' B A l := ⟨h.1, h.2.below hb (Nat.le_refl _)⟩
theorem pair_one {w : World} {B : Nat} {A : Option Addr} {L : List (MFault × MFault)} (h : PairsA w B A L) {k : Nat} (hk : k < L.length) : ∃ fb off, A = some ⟨fb, off, none⟩ ∧ fb < B ∧ (w.cell? ⟨fb, off + k * 4, none⟩ = some (.int .i64 (L.getD k dPair).1.kind) ∧ w.cell? ⟨fb, off + k * 4 + 1, none⟩ = some (.int .i64 (L.getD k dPair).1.number)) ∧ w.cell? ⟨fb, off + k * 4 + 2, none⟩ = some (.int .i64 (L.getD k dPair).2.kind) ∧ w.cell? ⟨fb, off + k * 4 + 3, none⟩ = some (.int .i64 (L.getD k dPair).2.number) := by
  obtain ⟨fb, off, hA, hlt, hc⟩ := h.2 (by omega)
  exact ⟨fb, off, hA, hlt, ⟨hc k 0 hk (by decide), hc k 1 hk (by decide)⟩, hc k 2 hk (by decide), hc k 3 hk (by decide)⟩
set_option maxRecDepth 100000 in
set_option maxHeartbeats 8000000 in
theorem doubles_any (g : MGrid) (A1 A2 A3 : Option Addr) (c1 c2 c3 : Nat) (level : Int) (w : World) (h : GridA w w.heap.size g A1 A2 A3) :
    Calls Try.prog 14 #[.agg (gridC g A1 A2 A3 c1 c2 c3), .int .i64 level] w fun e w' => e = .returned (.bool true) ∧ Below w.heap.size w w' := by
  obtain ⟨w1, hw1⟩ : ∃ w1, w.alloc (.cells #[.int .i64 g.nodes, .slice A1 g.lines.length c1, .slice A2 g.srcs.length c2, .slice A3 g.users.length c3] 26) = w1 := ⟨_, rfl⟩
  have hb1 : Below w.heap.size w w1 := by rw [← hw1]; exact (Below.refl _ _).alloc (Nat.le_refl _) _
  have hs1 : w1.heap.size = w.heap.size + 1 := by rw [← hw1]; simp
  have hx1 : w1.heap[w.heap.size]? = some (.cells #[.int .i64 g.nodes, .slice A1 g.lines.length c1, .slice A2 g.srcs.length c2, .slice A3 g.users.length c3] 26 (0, 0)) := by rw [← hw1]; exact heap_alloc_new w _
  have HX : Hid (∀ W, Below w1.heap.size w1 W → Below w.heap.size w W ∧ W.cell? ⟨w.heap.size, 0, none⟩ = some (.int .i64 g.nodes) ∧ W.cell? ⟨w.heap.size, 1, none⟩ = some (.slice A1 g.lines.length c1) ∧ W.cell? ⟨w.heap.size, 2, none⟩ = some (.slice A2 g.srcs.length c2) ∧ W.cell? ⟨w.heap.size, 3, none⟩ = some (.slice A3 g.users.length c3)) := fun W hW => by
    have h1 := (hW.block w.heap.size (by omega)).trans hx1
    exact ⟨hb1.trans (hW.mono (by omega)), cell_of_row W _ 0 _ _ _ h1, cell_of_row W _ 1 _ _ _ h1, cell_of_row W _ 2 _ _ _ h1, cell_of_row W _ 3 _ _ _ h1⟩
  have HG : Hid (∀ W, Below w1.heap.size w1 W → GridA W W.heap.size g A1 A2 A3) := fun W hW => (h.keep (HX.out W hW).1).more (HX.out W hW).1.size
  obtain ⟨_, p0, p1, p2, p3⟩ := HX.out w1 (Below.refl _ _)
  obtain ⟨fb, hfb⟩ : ∃ fb, smallB g = fb := ⟨_, rfl⟩
  have HSM : Hid (∀ W, Below w1.heap.size w1 W → Calls Try.prog 47 #[.agg (gridC g A1 A2 A3 c1 c2 c3)] W fun e w' => e = .returned (.bool fb) ∧ Below W.heap.size W w') := fun W hW => by have := small_any g A1 A2 A3 c1 c2 c3 W (HG.out W hW); rw [hfb] at this; exact this
  have HWK := Lib.hid works_any
  have HB0 : Hid (Below w1.heap.size w1 w1) := Below.refl _ _
  have hl := (HG.out w1 HB0.out)
  have HLN : Hid (g.lines.length ≤ maxLen ∧ g.srcs.length ≤ maxLen ∧ g.users.length ≤ maxLen) := ⟨hl.ls.1, hl.ss.1, hl.us.1⟩
  obtain ⟨E0, hE0⟩ : ∃ E0, checkG g = E0 := ⟨_, rfl⟩
  have HCK : Hid (∀ W, Below w1.heap.size w1 W → Calls Try.prog 36 #[.agg (gridC g A1 A2 A3 c1 c2 c3)] W fun e w' => e = .returned (.int .i64 E0) ∧ Below W.heap.size W w') := fun W hW => rcheck_any g A1 A2 A3 c1 c2 c3 W (HG.out W hW) hE0
  clear hl
  cases fb
  · unfold gridC at HSM ⊢
    clear hfb hb1 hx1 h HCK hE0
    go_enter Try.func14, Try.ntmps14
    go_wp2_with (first
      | (go_at_call 47; refine (HSM.out _ HB0.out).mono ?_; rintro e w2 ⟨rfl, hb2⟩; have HB2 : Below w1.heap.size w1 w2 := hb2; clear hb2 p0 p1 p2 p3)
      | (go_at_call 16; refine (HWK.out _).mono ?_; rintro e w6 ⟨rfl, hb6⟩; have HB6 : Below w1.heap.size w1 w6 := bel_next HB2 hb6; clear hb6)
      | fail)
    go_ret
    exact ⟨rfl, (HX.out _ HB6).1⟩
  · have hfew := few_far (small_far hfb)
    obtain ⟨L, hlen, hab⟩ := doubles_det g level
    obtain ⟨E, hE⟩ : ∃ E, levelG g level = E := ⟨_, rfl⟩
    have HE := Lib.hid hE
    have HCP : Hid (∀ W, Below w1.heap.size w1 W → Calls Try.prog 40 #[.agg (gridC g A1 A2 A3 c1 c2 c3)] W fun e w' => ∃ B1 B2 B3 d1 d2 d3, e = .returned (.agg #[.int .i64 g.nodes, .slice B1 g.lines.length d1, .slice B2 g.srcs.length d2, .slice B3 g.users.length d3]) ∧ GridA w' w'.heap.size g B1 B2 B3 ∧ Below W.heap.size W w') := fun W hW => (copy_any g A1 A2 A3 c1 c2 c3 W (HG.out W hW) hfew).mono fun e w' ⟨B1, B2, B3, d1, d2, d3, he, ho, _, hb⟩ => ⟨B1, B2, B3, d1, d2, d3, he, ho.grid HLN.out.1 HLN.out.2.1 HLN.out.2.2, hb⟩
    have H51 : Hid (∀ W B1 B2 B3 d1 d2 d3, GridA W W.heap.size g B1 B2 B3 → Calls Try.prog 51 #[.agg #[.int .i64 g.nodes, .slice B1 g.lines.length d1, .slice B2 g.srcs.length d2, .slice B3 g.users.length d3], .int .i64 level] W fun e w' => (∃ A c, e = .returned (.tuple #[.slice A L.length c, .int .i64 E]) ∧ PairsA w' w'.heap.size A L) ∧ Below W.heap.size W w') := fun W B1 B2 B3 d1 d2 d3 hg => (oDoubles_any g B1 B2 B3 d1 d2 d3 level W hg).mono fun e w' hp => by rw [← HE.out]; exact hab _ _ _ hp
    have H52 : Hid (∀ W, Below w1.heap.size w1 W → Calls Try.prog 52 #[.agg #[.int .i64 g.nodes, .slice A1 g.lines.length c1, .slice A2 g.srcs.length c2, .slice A3 g.users.length c3], .int .i64 level] W fun e w' => (∃ A c, e = .returned (.tuple #[.slice A L.length c, .int .i64 E]) ∧ PairsA w' w'.heap.size A L) ∧ Below W.heap.size W w') := fun W hW => (rDoubles_any g A1 A2 A3 c1 c2 c3 level W (HG.out W hW)).mono fun e w' hp => by rw [← HE.out]; exact hab _ _ _ hp
    have HLL := Lib.hid hlen
    have hgn : E0 = 0 → 1 ≤ g.nodes ∧ g.nodes ≤ 20 ∧ g.lines.length ≤ 40 := fun h => by
      obtain ⟨n, hg⟩ := checkG_ok (hE0.trans h)
      have := hg.nodes; have := hg.few; have := hg.nl
      omega
    unfold gridC at HSM HCP HCK ⊢
    clear hfb hb1 hx1 h hab hfew hE hlen hE0
    by_cases hz : E0 = 0
    · subst hz
      obtain ⟨hn1, hn20, hl40⟩ := hgn rfl
      clear hgn
      by_cases hbig : 10 < g.nodes + g.lines.length
      · have hbg : decide (10 < g.nodes + (g.lines.length : Int)) = true := by simp; omega
        go_enter Try.func14, Try.ntmps14
        go_wp2_with (first
      | (go_at_call 47; refine (HSM.out _ HB0.out).mono ?_; rintro e w2 ⟨rfl, hb2⟩; have HB2 : Below w1.heap.size w1 w2 := hb2; clear hb2 p0 p1 p2 p3; obtain ⟨_, p0, p1, p2, p3⟩ := HX.out w2 HB2)
      | (go_at_call 36; refine (HCK.out _ HB2).mono ?_; rintro e w3 ⟨rfl, hb3⟩; have HB3 : Below w1.heap.size w1 w3 := bel_next HB2 hb3; clear hb3 p0 p1 p2 p3; obtain ⟨_, p0, p1, p2, p3⟩ := HX.out w3 HB3)
      | (go_at_call 40; with_reducible refine (HCP.out _ HB3).mono ?_; rintro e w4 ⟨B1, B2, B3, d1, d2, d3, rfl, hg4, hb4⟩; have HG4 := Lib.hid hg4; have HB4 : Below w1.heap.size w1 w4 := bel_next HB3 hb4; clear hg4 hb4)
      | (go_at_call 51; with_reducible refine (H51.out _ B1 B2 B3 d1 d2 d3 HG4.out).mono ?_; rintro e w5 ⟨⟨A5, c5, rfl, hi5⟩, hb5⟩; have HI5 := Lib.hid hi5; have HB5 : Below w1.heap.size w1 w5 := bel_next HB4 hb5; clear hi5 hb5 p0 p1 p2 p3; obtain ⟨_, p0, p1, p2, p3⟩ := HX.out w5 HB5)
      | (go_at_call 52; refine (H52.out _ HB5).mono ?_; rintro e w6 ⟨⟨A6, c6, rfl, hi6⟩, hb6⟩; have HI6 := Lib.hid hi6; have HK6 := Lib.hid ((HI5.out.keep hb6).more hb6.size); have HB6 : Below w1.heap.size w1 w6 := bel_next HB5 hb6; clear hi6 hb6 p0 p1 p2 p3)
      | (go_at_call 16; refine (HWK.out _).mono ?_; rintro e w7 ⟨rfl, hb7⟩; have HB7 : Below w1.heap.size w1 w7 := bel_next HB3 hb7; clear hb7)
      | fail)
        go_ret
        exact ⟨rfl, (HX.out _ HB7).1⟩
      · have hbg : decide (10 < g.nodes + (g.lines.length : Int)) = false := by simp; omega
        go_enter Try.func14, Try.ntmps14
        go_wp2_with (first
      | (go_at_call 47; refine (HSM.out _ HB0.out).mono ?_; rintro e w2 ⟨rfl, hb2⟩; have HB2 : Below w1.heap.size w1 w2 := hb2; clear hb2 p0 p1 p2 p3; obtain ⟨_, p0, p1, p2, p3⟩ := HX.out w2 HB2)
      | (go_at_call 36; refine (HCK.out _ HB2).mono ?_; rintro e w3 ⟨rfl, hb3⟩; have HB3 : Below w1.heap.size w1 w3 := bel_next HB2 hb3; clear hb3 p0 p1 p2 p3; obtain ⟨_, p0, p1, p2, p3⟩ := HX.out w3 HB3)
      | (go_at_call 40; with_reducible refine (HCP.out _ HB3).mono ?_; rintro e w4 ⟨B1, B2, B3, d1, d2, d3, rfl, hg4, hb4⟩; have HG4 := Lib.hid hg4; have HB4 : Below w1.heap.size w1 w4 := bel_next HB3 hb4; clear hg4 hb4)
      | (go_at_call 51; with_reducible refine (H51.out _ B1 B2 B3 d1 d2 d3 HG4.out).mono ?_; rintro e w5 ⟨⟨A5, c5, rfl, hi5⟩, hb5⟩; have HI5 := Lib.hid hi5; have HB5 : Below w1.heap.size w1 w5 := bel_next HB4 hb5; clear hi5 hb5 p0 p1 p2 p3; obtain ⟨_, p0, p1, p2, p3⟩ := HX.out w5 HB5)
      | (go_at_call 52; refine (H52.out _ HB5).mono ?_; rintro e w6 ⟨⟨A6, c6, rfl, hi6⟩, hb6⟩; have HI6 := Lib.hid hi6; have HK6 := Lib.hid ((HI5.out.keep hb6).more hb6.size); have HB6 : Below w1.heap.size w1 w6 := bel_next HB5 hb6; clear hi6 hb6 p0 p1 p2 p3)
      | (go_at_call 16; refine (HWK.out _).mono ?_; rintro e w7 ⟨rfl, hb7⟩; have HB7 : Below w1.heap.size w1 w7 := bel_next HB3 hb7; clear hb7)
      | fail)
        have HS6 : Hid (∀ W, Below w6.heap.size w6 W → PairsA W W.heap.size A5 L ∧ PairsA W W.heap.size A6 L) := fun W hW => ⟨(HK6.out.keep hW).more hW.size, (HI6.out.keep hW).more hW.size⟩
        have HC0 : Hid (Below w6.heap.size w6 w6) := Below.refl _ _
        clear HCK HSM
        go_loopw [9] (fun vi wr => ∃ i : Nat, i ≤ L.length ∧ vi = .int .i64 i ∧ Hid (Below w6.heap.size w6 wr)) (fun vi _ => L.length - (intOf vi).toNat)
        case atStart => exact ⟨0, Nat.zero_le _, rfl, HC0⟩
        case round =>
          clear HC0
          obtain ⟨i, hi, rfl, HB⟩ := hrel
          rename World => wr
          have hll := HLL.out
          by_cases hlt : i < L.length
          · have HLT := Lib.hid hlt
            obtain ⟨fa, foff, hA5, hfa, ⟨f0, f1⟩, f2, f3⟩ := pair_one (HS6.out wr HB.out).1 hlt
            obtain ⟨fc, foffc, hA6, hfc, ⟨g0, g1⟩, g2, g3⟩ := pair_one (HS6.out wr HB.out).2 hlt
            subst hA5
            subst hA6
            obtain ⟨⟨⟨x0, x1⟩, x2, x3⟩, hx⟩ : ∃ f, L.getD i dPair = f := ⟨_, rfl⟩
            rw [hx] at f0 f1 f2 f3 g0 g1 g2 g3
            dsimp only at f0 f1 f2 f3 g0 g1 g2 g3
            clear hx
            have n0 : (x0 != x0) = false := by simp
            have n1 : (x1 != x1) = false := by simp
            have n2 : (x2 != x2) = false := by simp
            have n3 : (x3 != x3) = false := by simp
            have m0 : (x0 == x0) = true := by simp
            have m1 : (x1 == x1) = true := by simp
            have m2 : (x2 == x2) = true := by simp
            have m3 : (x3 == x3) = true := by simp
            have heq := eq79 x0 x1 x2 x3
            go_upto_region 10 with fail
            go_quiet (fail)
            have HBZ := Lib.hid (bdrw HB.out nq)
            generalize wr.drewN nq = w8 at *
            go_wp2_with fail
            go_roundw
            case rel => exact ⟨i + 1, HLT.out, by go_num, HBZ⟩
            case measure => simp [intOf]; have := HLT.out; omega
          · obtain rfl : i = L.length := by omega
            go_wp2_with (first
              | (go_at_call 16; refine (HWK.out _).mono ?_; rintro e w9 ⟨rfl, hb9⟩; have HB9 : Below w6.heap.size w6 w9 := bel_next HB.out hb9; clear hb9)
              | fail)
            go_ret
            exact ⟨rfl, (HX.out _ (HB6.trans (HB9.mono HB6.size))).1⟩
    · clear hgn
      have hz' : (E0 == 0) = false := by simpa using hz
      go_enter Try.func14, Try.ntmps14
      go_wp2_with (first
      | (go_at_call 47; refine (HSM.out _ HB0.out).mono ?_; rintro e w2 ⟨rfl, hb2⟩; have HB2 : Below w1.heap.size w1 w2 := hb2; clear hb2 p0 p1 p2 p3; obtain ⟨_, p0, p1, p2, p3⟩ := HX.out w2 HB2)
      | (go_at_call 36; refine (HCK.out _ HB2).mono ?_; rintro e w3 ⟨rfl, hb3⟩; have HB3 : Below w1.heap.size w1 w3 := bel_next HB2 hb3; clear hb3 p0 p1 p2 p3; obtain ⟨_, p0, p1, p2, p3⟩ := HX.out w3 HB3)
      | (go_at_call 40; with_reducible refine (HCP.out _ HB3).mono ?_; rintro e w4 ⟨B1, B2, B3, d1, d2, d3, rfl, hg4, hb4⟩; have HG4 := Lib.hid hg4; have HB4 : Below w1.heap.size w1 w4 := bel_next HB3 hb4; clear hg4 hb4)
      | (go_at_call 51; with_reducible refine (H51.out _ B1 B2 B3 d1 d2 d3 HG4.out).mono ?_; rintro e w5 ⟨⟨A5, c5, rfl, hi5⟩, hb5⟩; have HI5 := Lib.hid hi5; have HB5 : Below w1.heap.size w1 w5 := bel_next HB4 hb5; clear hi5 hb5 p0 p1 p2 p3; obtain ⟨_, p0, p1, p2, p3⟩ := HX.out w5 HB5)
      | (go_at_call 52; refine (H52.out _ HB5).mono ?_; rintro e w6 ⟨⟨A6, c6, rfl, hi6⟩, hb6⟩; have HI6 := Lib.hid hi6; have HK6 := Lib.hid ((HI5.out.keep hb6).more hb6.size); have HB6 : Below w1.heap.size w1 w6 := bel_next HB5 hb6; clear hi6 hb6 p0 p1 p2 p3)
      | (go_at_call 16; refine (HWK.out _).mono ?_; rintro e w7 ⟨rfl, hb7⟩; have HB7 : Below w1.heap.size w1 w7 := bel_next HB3 hb7; clear hb7)
      | fail)
      have HS6 : Hid (∀ W, Below w6.heap.size w6 W → PairsA W W.heap.size A5 L ∧ PairsA W W.heap.size A6 L) := fun W hW => ⟨(HK6.out.keep hW).more hW.size, (HI6.out.keep hW).more hW.size⟩
      have HC0 : Hid (Below w6.heap.size w6 w6) := Below.refl _ _
      clear HCK HSM
      go_loopw [9] (fun vi wr => ∃ i : Nat, i ≤ L.length ∧ vi = .int .i64 i ∧ Hid (Below w6.heap.size w6 wr)) (fun vi _ => L.length - (intOf vi).toNat)
      case atStart => exact ⟨0, Nat.zero_le _, rfl, HC0⟩
      case round =>
        clear HC0
        obtain ⟨i, hi, rfl, HB⟩ := hrel
        rename World => wr
        have hll := HLL.out
        by_cases hlt : i < L.length
        · have HLT := Lib.hid hlt
          obtain ⟨fa, foff, hA5, hfa, ⟨f0, f1⟩, f2, f3⟩ := pair_one (HS6.out wr HB.out).1 hlt
          obtain ⟨fc, foffc, hA6, hfc, ⟨g0, g1⟩, g2, g3⟩ := pair_one (HS6.out wr HB.out).2 hlt
          subst hA5
          subst hA6
          obtain ⟨⟨⟨x0, x1⟩, x2, x3⟩, hx⟩ : ∃ f, L.getD i dPair = f := ⟨_, rfl⟩
          rw [hx] at f0 f1 f2 f3 g0 g1 g2 g3
          dsimp only at f0 f1 f2 f3 g0 g1 g2 g3
          clear hx
          have n0 : (x0 != x0) = false := by simp
          have n1 : (x1 != x1) = false := by simp
          have n2 : (x2 != x2) = false := by simp
          have n3 : (x3 != x3) = false := by simp
          have m0 : (x0 == x0) = true := by simp
          have m1 : (x1 == x1) = true := by simp
          have m2 : (x2 == x2) = true := by simp
          have m3 : (x3 == x3) = true := by simp
          have heq := eq79 x0 x1 x2 x3
          go_upto_region 10 with fail
          go_quiet (fail)
          have HBZ := Lib.hid (bdrw HB.out nq)
          generalize wr.drewN nq = w8 at *
          go_wp2_with fail
          go_roundw
          case rel => exact ⟨i + 1, HLT.out, by go_num, HBZ⟩
          case measure => simp [intOf]; have := HLT.out; omega
        · obtain rfl : i = L.length := by omega
          go_wp2_with (first
            | (go_at_call 16; refine (HWK.out _).mono ?_; rintro e w9 ⟨rfl, hb9⟩; have HB9 : Below w6.heap.size w6 w9 := bel_next HB.out hb9; clear hb9)
            | fail)
          go_ret
          exact ⟨rfl, (HX.out _ (HB6.trans (HB9.mono HB6.size))).1⟩
end Go.Proofs.Ytegclodchhcbaaa
