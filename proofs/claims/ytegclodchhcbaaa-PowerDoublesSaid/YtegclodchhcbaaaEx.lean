/- Walk: Singles: ours, a range over a function that collects; a fault appended within a round. -/
import Derived.RangeFuncNested
import Derived.RangeFuncBound
import Derived.RangeFuncCalls
import Derived.RangeFuncLeaves
import Derived.Shelf.Abstract
import Derived.Shelf.RegionOpen
import Derived.WalkKit
import Derived.OwnWalkIn
import Derived.TacticsInMore
import Derived.LoopNIn
import Derived.LoopIn
import Derived.Test.YtegclodchhcbaaaEw
namespace Go.Proofs.Ytegclodchhcbaaa
open Go.RowKit Go.Shelf
attribute [local go_sem] Oper.semAt_some

section
variable {F : Fence} {n : Nat} {ops : Array Oper} {rest : List Oper} {o : Oper} {a : Act} {Q : Exit → Act → World → Prop}
set_option maxRecDepth 100000 in
theorem app_faultIn (w : World) (hg : o.guard = none) (s x : Operand) (ho : o.op = .call { callee := .builtin .append, args := #[s, x], argTypes := #[27, 27] }) (base : Nat) (v : Value) (L : List MFault)
    (hs : a.eval s = v) (hown : OutF w base v L) (xb : Nat) (f : MFault) (hx : a.eval x = .slice (some ⟨xb, 0, none⟩) 1 1) (hh : w.heap[xb]? = some (.cells #[.int .i64 f.kind, .int .i64 f.number] 41 (0, 0))) (hl : L.length ≤ 1000) (hbase : base ≤ w.heap.size)
    (hK : ∀ v' w', OutF w' base v' (L ++ [f]) → w.grownBy w' v.ownBlock → wpListIn F n Try.prog ops Q rest (a.put o.dst v') w') : wpListIn F n Try.prog ops Q (o :: rest) a w := by
  obtain ⟨i0, hi, hz0, hz1, hz2⟩ := info_parts info_fault
  refine wpListIn_append_own w hg s x 27 ho base 41 i0 _ 2 16 copyF.und hi hz0 hz1 hz2 rfl (by decide) v L.length _ hs hown ⟨xb, 0, none⟩ 1 1 [.int .i64 f.kind, .int .i64 f.number] hx rfl (fun j u hj => ?_) (fun u hu => ?_) (by unfold maxLen; omega) (by omega) hbase (fun v' w' h1 h2 _ => hK v' w' ?_ h2)
  · rw [add_none0, Nat.zero_add, cell_of_row w xb j _ 41 _ hh]
    rw [List.getElem?_toArray]
    exact hj
  · simp at hu
    rcases hu with rfl | rfl <;> rfl
  · rw [faultCells_app] at h1
    unfold OutF
    rw [List.length_append] at h1 ⊢
    exact h1
end
theorem keepsOthers_below {W W' : World} (h : Below W.heap.size W W') : KeepsOthers W W' := ⟨h.size, fun k _ hk _ => (h.block k (Array.getElem?_eq_some_iff.1 hk).1).trans hk⟩
theorem boxed_below {W W' : World} {B : Nat} {t : TypeId} {v : Value} (h : Boxed W B t v) (hb : Below W.heap.size W W') : Boxed W' B t v := (hb.block B h.lt).trans h
/-- those of a list that do harm alone (or do not) -/
noncomputable def collH (g : MGrid) (level : Int) (y : Bool) (L : List MFault) : List MFault := L.filter fun f => harmB g [f] level == y
theorem collH_hit {g : MGrid} {level : Int} {y : Bool} {L : List MFault} {x : MFault} (h : harmB g [x] level = y) : collH g level y (L ++ [x]) = collH g level y L ++ [x] := by simp [collH, h]
theorem collH_miss {g : MGrid} {level : Int} {y : Bool} {L : List MFault} {x : MFault} (h : harmB g [x] level = !y) : collH g level y (L ++ [x]) = collH g level y L := by cases y <;> simp [collH, h]
theorem collH_len (g : MGrid) (level : Int) (y : Bool) (L : List MFault) : (collH g level y L).length ≤ L.length := List.length_filter_le _ _
theorem singL_take (g : MGrid) (level : Int) (L : List MFault) : ∀ k, k ≤ L.length → singL g level L k = collH g level true (L.take k)
  | 0, _ => rfl
  | k + 1, hk => by
    have hx : L.getD k dFault = L[k]'(by omega) := by simp [List.getD_eq_getElem?_getD, List.getElem?_eq_getElem (show k < L.length by omega)]
    rw [singL, singL_take g level L k (by omega), List.take_add_one, List.getElem?_eq_getElem (show k < L.length by omega), Option.toList_some, hx]
    split
    · rename_i h; rw [collH_hit h]
    · rename_i h; rw [collH_miss (by simpa using h)]
theorem singL_coll (g : MGrid) (level : Int) (L : List MFault) : singL g level L L.length = collH g level true L := by rw [singL_take g level L _ (Nat.le_refl _), List.take_length]
theorem allF_len (g : MGrid) (n : Nat) : (allF g n).length = g.srcs.length + g.lines.length + n := by unfold allF; simp only [List.length_append, kindL_len]
theorem faults_one (w : World) (x : MFault) : FaultsA (w.alloc (.cells #[.int .i64 x.kind, .int .i64 x.number] 41)) (w.alloc (.cells #[.int .i64 x.kind, .int .i64 x.number] 41)).heap.size (some ⟨w.heap.size, 0, none⟩) [x] := by
  have hh := heap_alloc_new w (.cells #[.int .i64 x.kind, .int .i64 x.number] 41)
  refine ⟨by show 1 ≤ maxLen; decide, fun _ => ⟨w.heap.size, 0, rfl, by simp, fun i j hi hj => ?_⟩⟩
  obtain rfl : i = 0 := by simp at hi; omega
  simp only [Nat.zero_mul, Nat.zero_add]
  rw [cell_of_row _ _ j _ _ _ hh]
  rcases (show j = 0 ∨ j = 1 by omega) with rfl | rfl <;> rfl
set_option maxRecDepth 100000 in
set_option maxHeartbeats 4000000 in
theorem oSingles_any (g : MGrid) (A1 A2 A3 : Option Addr) (c1 c2 c3 : Nat) (level : Int) (w : World) (h : GridA w w.heap.size g A1 A2 A3) :
    Calls Try.prog 48 #[.agg (gridC g A1 A2 A3 c1 c2 c3), .int .i64 level] w (SingP g level w) := by
  refine (callsIn_wide (n := 5)).1 ?_
  have HG : Hid (∀ W, Below w.heap.size w W → GridA W W.heap.size g A1 A2 A3) := fun W hW => (h.keep hW).more hW.size
  obtain ⟨w1, hw1⟩ : ∃ w1, (w.alloc (.cells #[.int .i64 g.nodes, .slice A1 g.lines.length c1, .slice A2 g.srcs.length c2, .slice A3 g.users.length c3] 26)).alloc (.cells #[.int .i64 level] 3) = w1 := ⟨_, rfl⟩
  have hb1 : Below w.heap.size w w1 := by rw [← hw1]; exact ((Below.refl _ _).alloc (Nat.le_refl _) _).alloc (by simp) _
  have hs1 : w1.heap.size = w.heap.size + 2 := by rw [← hw1]; simp
  have hx1 : w1.heap[w.heap.size]? = some (.cells #[.int .i64 g.nodes, .slice A1 g.lines.length c1, .slice A2 g.srcs.length c2, .slice A3 g.users.length c3] 26 (0, 0)) := by rw [← hw1]; exact (Below.heap_alloc _ _ _ (by simp)).trans (heap_alloc_new w _)
  have hx2 : w1.heap[w.heap.size + 1]? = some (.cells #[.int .i64 level] 3 (0, 0)) := by rw [← hw1]; have := heap_alloc_new (w.alloc (.cells #[.int .i64 g.nodes, .slice A1 g.lines.length c1, .slice A2 g.srcs.length c2, .slice A3 g.users.length c3] 26)) (.cells #[.int .i64 level] 3); rwa [World.size_alloc] at this
  have HX : Hid (∀ W, Below w1.heap.size w1 W → Below w.heap.size w W ∧ W.cell? ⟨w.heap.size, 0, none⟩ = some (.int .i64 g.nodes) ∧ W.cell? ⟨w.heap.size, 1, none⟩ = some (.slice A1 g.lines.length c1) ∧ W.cell? ⟨w.heap.size, 2, none⟩ = some (.slice A2 g.srcs.length c2) ∧ W.cell? ⟨w.heap.size, 3, none⟩ = some (.slice A3 g.users.length c3) ∧ W.cell? ⟨w.heap.size + 1, 0, none⟩ = some (.int .i64 level)) := fun W hW => by
    have h1 := (hW.block w.heap.size (by omega)).trans hx1
    have h2 := (hW.block (w.heap.size + 1) (by omega)).trans hx2
    exact ⟨hb1.trans (hW.mono (by omega)), cell_of_row W _ 0 _ _ _ h1, cell_of_row W _ 1 _ _ _ h1, cell_of_row W _ 2 _ _ _ h1, cell_of_row W _ 3 _ _ _ h1, cell_of_row W _ 0 _ _ _ h2⟩
  obtain ⟨E, hE⟩ : ∃ E, levelG g level = E := ⟨_, rfl⟩
  have HE := Lib.hid hE
  have HCK := Lib.hid (checkLevel_any g A1 A2 A3 c1 c2 c3 level w1 (HG.out _ hb1))
  rw [hE] at HCK
  have HEV := Lib.hid (fun W => everything_any g A1 A2 A3 c1 c2 c3 W)
  by_cases hz : E = 0
  · subst hz
    clear hE
    obtain ⟨n, hok⟩ := checkG_ok (levelG_ok HE.out).1
    have HOK := Lib.hid hok
    have HN : Hid ((allF g n).length ≤ 300) := by
      show _ ≤ _
      rw [allF_len]
      have := hok.few; have := hok.ns; have := hok.nl
      omega
    have HIT := Lib.hid (fun bx n₀ W hbx => every_stops 4 (by decide) g n hok.nodes (by have := hok.ns; omega) (by have := hok.nl; omega) (by have := hok.few; omega) A1 A2 A3 c1 c2 c3 bx n₀ W hbx)
    have HH : Hid (∀ x W b, harmB g [x] level = b → Below w.heap.size w W → Calls Try.prog 81 #[.agg (gridC g A1 A2 A3 c1 c2 c3), .int .i64 level, .slice (some ⟨W.heap.size, 0, none⟩) 1 1] (W.alloc (.cells #[.int .i64 x.kind, .int .i64 x.number] 41)) fun e w' => e = .returned (.bool b) ∧ Below (W.heap.size + 1) (W.alloc (.cells #[.int .i64 x.kind, .int .i64 x.number] 41)) w') := fun x W b hb hW => by
      have := harm_any g A1 A2 A3 c1 c2 c3 (some ⟨W.heap.size, 0, none⟩) 1 [x] level (W.alloc (.cells #[.int .i64 x.kind, .int .i64 x.number] 41)) (HG.out _ (hW.alloc hW.size _)) (faults_one W x) HOK.out hb
      rwa [World.size_alloc] at this
    unfold gridC at HCK HEV HIT HH ⊢
    refine callsIn_of_wp_marks Try.func48 rfl trivial ?_ rfl
    simp only [Try.ntmps48, List.size_toArray, List.length_cons, List.length_nil, Nat.reduceAdd, Nat.reduceSub, Array.replicate_succ, Array.replicate_zero, List.push_toArray, List.append_toArray, List.nil_append, List.cons_append]
    obtain ⟨_, p0, p1, p2, p3, p4⟩ := HX.out w1 (Below.refl _ _)
    clear hok hb1 hx1 hx2
    gi_wp2_with (first
      | (refine ⟨trivial, ?_⟩; gi_at_call 79; (try rw [hw1]); refine (callsIn_wide.2 HCK.out).mono ?_; rintro e w2 ⟨rfl, hb2⟩; have HB2 := Lib.hid hb2; clear p0 p1 p2 p3 p4 hb2; obtain ⟨_, p0, p1, p2, p3, p4⟩ := HX.out (w2.alloc (.cells #[.slice none 0 0] 27)) (HB2.out.alloc HB2.out.size _))
      | (refine ⟨trivial, ?_⟩; gi_at_call 80; refine (callsIn_wide.2 (HEV.out _)).mono ?_; rintro e w3 ⟨rfl, rfl⟩)
      | fail)
    have hs2 := HB2.out.size
    obtain ⟨W0, hW0⟩ : ∃ W0, (w2.alloc (.cells #[.slice none 0 0] 27)).alloc (.cells #[.int .i64 g.nodes, .slice A1 g.lines.length c1, .slice A2 g.srcs.length c2, .slice A3 g.users.length c3] 26) = W0 := ⟨_, rfl⟩
    have bO : Boxed W0 w2.heap.size 27 (.slice none 0 0) := by rw [← hW0]; exact (Boxed.new w2 27 (.slice none 0 0)).alloc _
    have bG : W0.heap[w2.heap.size + 1]? = some (.cells #[.int .i64 g.nodes, .slice A1 g.lines.length c1, .slice A2 g.srcs.length c2, .slice A3 g.users.length c3] 26 (0, 0)) := by rw [← hW0]; have := heap_alloc_new (w2.alloc (.cells #[.slice none 0 0] 27)) (.cells #[.int .i64 g.nodes, .slice A1 g.lines.length c1, .slice A2 g.srcs.length c2, .slice A3 g.users.length c3] 26); rwa [World.size_alloc] at this
    have hsz : W0.heap.size = w2.heap.size + 2 := by rw [← hW0]; simp
    have HB0 : Hid (Below w1.heap.size w1 W0) := by rw [← hW0]; exact (HB2.out.alloc hs2 _).alloc (by simp; omega) _
    (try rw [hW0])
    clear hW0 p0 p1 p2 p3 p4
    refine wpIn_rangeFunc_ownH rfl (by decide) (gf := 100) (lb := #[.pointer (some ⟨w2.heap.size + 1, 0, none⟩)]) rfl trivial (enters_of Try.func100 (by kernel_rfl) rfl)
      (HIT.out (w2.heap.size + 1) w1.heap.size W0 bG) belowK_t (belowK_b (by omega)) (Below.refl _ _) (fun _ => rfl)
      (fun pre W => (∃ v, Boxed W w2.heap.size 27 v ∧ W.ownsRow w1.heap.size 41 2 v (collH g level true pre).length (rowL (collH g level true pre).length 2 (faultCell (collH g level true pre))) ∧ True) ∧ Below w1.heap.size w1 W)
      (fun _ _ _ => False)
      (OwnFrom.and (Own.from (holdsRow_own w1.heap.size w2.heap.size 27 41 2 (fun pre => (collH g level true pre).length) (fun pre => rowL (collH g level true pre).length 2 (faultCell (collH g level true pre))) (fun _ _ => True)) _) (ownFrom_below (Nat.le_refl _) (by omega)))
      (fun _ _ _ _ _ hs _ _ => hs)
      ⟨⟨_, bO, ⟨rowL_len _ _ _, .inl ⟨rfl, rfl⟩⟩, trivial⟩, HB0.out⟩
      (fun x a' W => ∃ Bx, w2.heap.size < Bx ∧ W.heap[Bx]? = some (.cells #[.int .i64 x.kind, .int .i64 x.number] 41 (0, 0)) ∧ a' = { tmps := #[.agg #[.int .i64 g.nodes, .slice A1 g.lines.length c1, .slice A2 g.srcs.length c2, .slice A3 g.users.length c3], .int .i64 level, .pointer (some ⟨w.heap.size, 0, none⟩), .pointer (some ⟨w.heap.size + 1, 0, none⟩), .slice none 0 0, .int .i64 0, .int .i64 0, .pointer (some ⟨w2.heap.size, 0, none⟩), .pointer (some ⟨Bx, 0, none⟩), .agg #[.int .i64 g.nodes, .slice A1 g.lines.length c1, .slice A2 g.srcs.length c2, .slice A3 g.users.length c3], .int .i64 level, .int .i64 0, .int .i64 0, .bool false, undef, .agg #[.int .i64 g.nodes, .slice A1 g.lines.length c1, .slice A2 g.srcs.length c2, .slice A3 g.users.length c3], .func (.func 100) #[] #[.pointer (some ⟨w2.heap.size + 1, 0, none⟩)], .agg #[.int .i64 x.kind, .int .i64 x.number], undef, undef, undef, undef, undef, undef, undef, undef, undef, undef], defers := [] })
      (fun x a' _ X Y row hs hg hr => by obtain ⟨Bx, h1, h2, h3⟩ := hs; exact ⟨Bx, h1, (hg.block Bx (lt_of_cells h2) (fun e => by obtain ⟨_, o, ho, hc⟩ := hr Bx e.symm; rw [h2] at ho; cases ho; cases hc)).trans h2, h3⟩)
      ?assign ?body ?done ?stop
    case assign =>
      rintro l pre x W K ⟨⟨v, bV, hrow, _⟩, hB1⟩ hK
      unfold encF
      gi_wp2
      refine hK _ _ ((KeepsOthers.alloc _ _).from _) ((Below.refl _ W).alloc hB1.size _) ⟨⟨v, bV.alloc _, hrow.alloc _, trivial⟩, hB1.alloc hB1.size _⟩ ⟨W.heap.size, bV.lt, heap_alloc_new _ _, rfl⟩
    case body =>
      rintro l pre x a' W hl ⟨r, hr⟩ ⟨⟨v, bV, hrow, _⟩, hB1⟩ ⟨Bx, hBx, bX, rfl⟩ hlt
      obtain ⟨_, p0, p1, p2, p3, p4⟩ := HX.out W hB1
      obtain ⟨b, hb⟩ : ∃ b, harmB g [x] level = b := ⟨_, rfl⟩
      have HHB := Lib.hid hb
      have hC := Lib.hid (HH.out x W b hb (HX.out W hB1).1)
      have hx0 := cell_of_row W Bx 0 _ _ _ bX
      have hx1 := cell_of_row W Bx 1 _ _ _ bX
      simp only [List.getElem?_toArray, List.getElem?_cons_succ, List.getElem?_cons_zero] at hx0 hx1
      clear hb
      have HW := Lib.hid hB1
      have HBV := Lib.hid bV
      have HRW := Lib.hid hrow
      have hc0 := bV.cell
      clear hB1 hrow bV hr
      have HL : Hid ((collH g level true pre).length ≤ 1000) := by
        show _ ≤ _
        have := collH_len g level true pre
        have := HN.out
        omega
      have hBxl := lt_of_cells bX
      cases b with
      | false =>
        gi_wp2_with (first
          | (refine ⟨trivial, ?_⟩; gi_at_call 81; refine (CallsIn.inRound l (callsIn_wide.2 hC.out)).mono ?_; rintro e w3 ⟨rfl, hb3⟩; have HB3 : Hid (Below W.heap.size W w3) := ((Below.refl _ W).alloc (Nat.le_refl _) _).trans (hb3.mono (by omega)); clear hb3)
          | fail)
        have hbl : Below w1.heap.size W w3 := HB3.out.mono HW.out.size
        exact ⟨(keepsOthers_below HB3.out).from _, hbl, ⟨⟨v, boxed_below HBV.out HB3.out, by rw [collH_miss HHB.out]; exact own_below HRW.out HB3.out (fun b hb => (own_block_lt HRW.out b hb).2), trivial⟩, HW.out.trans hbl⟩⟩
      | true =>
        gi_wp2_with (first
          | (refine ⟨trivial, ?_⟩; gi_at_call 81; refine (CallsIn.inRound l (callsIn_wide.2 hC.out)).mono ?_; rintro e w3 ⟨rfl, hb3⟩; have HB3 : Hid (Below W.heap.size W w3) := ((Below.refl _ W).alloc (Nat.le_refl _) _).trans (hb3.mono (by omega)); clear hb3; have hd0 := (HB3.out.cell (p := ⟨Bx, 0, none⟩) hBxl).trans hx0; have hd1 := (HB3.out.cell (p := ⟨Bx, 1, none⟩) hBxl).trans hx1; have hdc := (boxed_below HBV.out HB3.out).cell; have HR3 : Hid (OutF w3 w1.heap.size v (collH g level true pre)) := own_below HRW.out HB3.out (fun b hb => (own_block_lt HRW.out b hb).2); have HA3 : Hid (OutF (w3.alloc (.cells #[.int .i64 x.kind, .int .i64 x.number] 41)) w1.heap.size v (collH g level true pre)) := own_below HR3.out ((Below.refl _ _).alloc (Nat.le_refl _) _) (fun b hb => (own_block_lt HR3.out b hb).2))
          | (gi_at_builtin; refine app_faultIn _ rfl _ _ rfl w1.heap.size v (collH g level true pre) rfl HA3.out w3.heap.size x rfl (heap_alloc_new w3 _) HL.out (by have := HW.out.size; have := HB3.out.size; simp; omega) ?_; intro v6 w6 hO6 hg6; unfold OutF at hO6; rw [List.length_append] at hO6; obtain ⟨g6, c6, rfl⟩ := ownsRow_succ hO6; obtain ⟨hv1, hv2, hr2, hk2, hb2⟩ := (boxed_below HBV.out HB3.out).appended (by decide) HR3.out (by have := HW.out.size; have := HB3.out.size; omega) (by omega) hO6 hg6; have hc6 := hv1.cell; have hf6 := hv1.frozen; have HV2 := Lib.hid hv2; have HR2 := Lib.hid hr2; have HK2 := Lib.hid hk2; have HB2b := Lib.hid hb2; clear hv1 hv2 hr2 hk2 hb2 hO6 hg6)
          | fail)
        have hbl : Below w1.heap.size W w3 := HB3.out.mono HW.out.size
        exact ⟨((keepsOthers_below HB3.out).trans HK2.out).from _, hbl.trans HB2b.out, ⟨⟨_, HV2.out, by rw [collH_hit HHB.out, List.length_append]; exact HR2.out, trivial⟩, (HW.out.trans hbl).trans HB2b.out⟩⟩
    case done =>
      rintro D ys W hD rfl ⟨⟨v, bV, hrow, _⟩, hB1⟩ hK
      have hc := bV.cell
      gi_wp2
      refine ⟨by simp, .inl ⟨_, _, rfl, run_takeDeferred hK, ?_⟩⟩
      refine ⟨_, results_tmp2 rfl _ _ _, ?_⟩
      have hbD : Below w.heap.size w (W.putObj D (.deferred none)) := (HX.out W hB1).1.trans (belowK_b (w := w) (Nat.le_refl _) W D _ _ (by omega) hK rfl rfl)
      exact ⟨hbD, .inr ⟨HE.out, n, v, HOK.out, rfl, by unfold OutF; rw [singL_coll]; exact own_base (ownsRow_putObj hrow _ hK rfl) (by omega)⟩⟩
    case stop =>
      rintro D c pre W _ _ h _
      exact h.elim
  · unfold gridC at HCK ⊢
    refine callsIn_of_wp_marks Try.func48 rfl trivial ?_ rfl
    simp only [Try.ntmps48, List.size_toArray, List.length_cons, List.length_nil, Nat.reduceAdd, Nat.reduceSub, Array.replicate_succ, Array.replicate_zero, List.push_toArray, List.append_toArray, List.nil_append, List.cons_append]
    obtain ⟨_, p0, p1, p2, p3, p4⟩ := HX.out w1 (Below.refl _ _)
    gi_wp2_with (first
      | (refine ⟨trivial, ?_⟩; gi_at_call 79; (try rw [hw1]); refine (callsIn_wide.2 HCK.out).mono ?_; rintro e w2 ⟨rfl, hb2⟩; have HB2 := Lib.hid hb2; clear p0 p1 p2 p3 p4 hb2)
      | fail)
    refine ⟨_, results_tmp2 rfl _ _ _, ?_⟩
    exact ⟨(HX.out _ HB2.out).1, .inl ⟨by rw [HE.out]; exact hz, by rw [HE.out]; rfl⟩⟩
end Go.Proofs.Ytegclodchhcbaaa
