/- Walks: Copy, grid, faults. -/
import Derived.Test.YtegclodchhcbaaaCb
import Derived.Test.YtegclodchhcbaaaSg
import Derived.Deep.RegionHeld3
namespace Go.Proofs.Ytegclodchhcbaaa
open Go.RowKit

theorem bel_alloc {a W : World} (h : Below a.heap.size a W) (o : Obj) : Below a.heap.size a (W.alloc o) := h.alloc h.size o
theorem bel_drew {a W : World} (h : Below a.heap.size a W) : Below a.heap.size a W.drew := h.drew
theorem bel_next {a W W' : World} (h : Below a.heap.size a W) (hb : Below W.heap.size W W') : Below a.heap.size a W' := h.trans (hb.mono h.size)
/-- a grid of the call's own -/
structure OwnG (w : World) (B : Nat) (g : MGrid) (A1 A2 A3 : Option Addr) : Prop where
  l : RowO w B 67 4 A1 g.lines.length (lineCell g.lines)
  s : RowO w B 57 2 A2 g.srcs.length (srcCell g.srcs)
  u : RowO w B 55 3 A3 g.users.length (userCell g.users)
theorem OwnG.grid {w : World} {B : Nat} {g : MGrid} {A1 A2 A3 : Option Addr} (h : OwnG w B g A1 A2 A3) (h1 : g.lines.length ≤ maxLen) (h2 : g.srcs.length ≤ maxLen) (h3 : g.users.length ≤ maxLen) : GridA w w.heap.size g A1 A2 A3 := ⟨⟨h1, h.l.sl⟩, ⟨h2, h.s.sl⟩, ⟨h3, h.u.sl⟩⟩
def CopyP (g : MGrid) (w : World) (e : Ending) (w' : World) : Prop :=
  ∃ A1 A2 A3 c1 c2 c3, e = .returned (.agg (gridC g A1 A2 A3 c1 c2 c3)) ∧ OwnG w' w.heap.size g A1 A2 A3 ∧ (g.lines.length ≤ c1 ∧ g.srcs.length ≤ c2 ∧ g.users.length ≤ c3) ∧ Below w.heap.size w w'
structure FewG (g : MGrid) : Prop where
  l : g.lines.length ≤ 100
  s : g.srcs.length ≤ 100
  u : g.users.length ≤ 100
theorem RowO.far {w : World} {B size m : Nat} {e : TypeId} {A : Option Addr} {f : Nat → Nat → Value} (h : RowO w B e size A m f) {p : Addr} (hp : p.block < B) (u : Value) : RowO (w.setCell p u) B e size A m f := fun hn => by
  obtain ⟨g, C, hA, hB, hh, r⟩ := h hn
  exact ⟨g, C, hA, hB, (Below.heap_setCell w p u g (by omega)).trans hh, r⟩
theorem OwnG.far {w : World} {B : Nat} {g : MGrid} {A1 A2 A3 : Option Addr} (h : OwnG w B g A1 A2 A3) {p : Addr} (hp : p.block < B) (u : Value) : OwnG (w.setCell p u) B g A1 A2 A3 := ⟨h.l.far hp u, h.s.far hp u, h.u.far hp u⟩
theorem OwnG.base {w : World} {B B' : Nat} {g : MGrid} {A1 A2 A3 : Option Addr} (h : OwnG w B g A1 A2 A3) (hB : B' ≤ B) : OwnG w B' g A1 A2 A3 := ⟨h.l.base hB, h.s.base hB, h.u.base hB⟩
theorem OwnG.keep {w w' : World} {B : Nat} {g : MGrid} {A1 A2 A3 : Option Addr} (h : OwnG w B g A1 A2 A3) (hb : Below w.heap.size w w') : OwnG w' B g A1 A2 A3 := ⟨h.l.keep hb, h.s.keep hb, h.u.keep hb⟩
theorem set4_heap {w : World} {g : Nat} {a b c d : Value} {t : TypeId} (h : w.heap[g]? = some (.cells #[a, b, c, d] t (0, 0))) (x y z u : Value) : ((((w.setCell ⟨g, 0, none⟩ x).setCell ⟨g, 1, none⟩ y).setCell ⟨g, 2, none⟩ z).setCell ⟨g, 3, none⟩ u).heap[g]? = some (.cells #[x, y, z, u] t (0, 0)) := by
  have h1 := heap_setCell_same w g 0 _ t x h
  have h2 := heap_setCell_same _ g 1 _ t y h1
  have h3 := heap_setCell_same _ g 2 _ t z h2
  have h4 := heap_setCell_same _ g 3 _ t u h3
  exact h4
theorem set4_below {B : Nat} {a w : World} (h : Below B a w) {g : Nat} (hg : B ≤ g) (x y z u : Value) : Below B a ((((w.setCell ⟨g, 0, none⟩ x).setCell ⟨g, 1, none⟩ y).setCell ⟨g, 2, none⟩ z).setCell ⟨g, 3, none⟩ u) :=
  (((h.setCell (p := ⟨g, 0, none⟩) hg _).setCell (p := ⟨g, 1, none⟩) hg _).setCell (p := ⟨g, 2, none⟩) hg _).setCell (p := ⟨g, 3, none⟩) hg _
theorem set4_own {w : World} {B : Nat} {G : MGrid} {A1 A2 A3 : Option Addr} (h : OwnG w B G A1 A2 A3) {g : Nat} (hg : g < B) (x y z u : Value) : OwnG ((((w.setCell ⟨g, 0, none⟩ x).setCell ⟨g, 1, none⟩ y).setCell ⟨g, 2, none⟩ z).setCell ⟨g, 3, none⟩ u) B G A1 A2 A3 :=
  (((h.far (p := ⟨g, 0, none⟩) hg _).far (p := ⟨g, 1, none⟩) hg _).far (p := ⟨g, 2, none⟩) hg _).far (p := ⟨g, 3, none⟩) hg _
set_option maxRecDepth 100000 in
set_option maxHeartbeats 4000000 in
theorem copy_any (g : MGrid) (A1 A2 A3 : Option Addr) (c1 c2 c3 : Nat) (w : World) (h : GridA w w.heap.size g A1 A2 A3) (hf : FewG g) :
    Calls Try.prog 40 #[.agg (gridC g A1 A2 A3 c1 c2 c3)] w (CopyP g w) := by
  obtain ⟨w1, hw1⟩ : ∃ w1, w.alloc (.cells #[.int .i64 g.nodes, .slice A1 g.lines.length c1, .slice A2 g.srcs.length c2, .slice A3 g.users.length c3] 26) = w1 := ⟨_, rfl⟩
  obtain ⟨w2, hw2⟩ : ∃ w2, w1.alloc (.cells #[.int .i64 0, .slice none 0 0, .slice none 0 0, .slice none 0 0] 26) = w2 := ⟨_, rfl⟩
  have hb1 : Below w.heap.size w w1 := by rw [← hw1]; exact (Below.refl _ _).alloc (Nat.le_refl _) _
  have hs1 : w1.heap.size = w.heap.size + 1 := by rw [← hw1]; simp
  have hb2 : Below w1.heap.size w1 w2 := by rw [← hw2]; exact (Below.refl _ _).alloc (Nat.le_refl _) _
  have hs2 : w2.heap.size = w.heap.size + 2 := by rw [← hw2]; simp; omega
  have hx1 : w1.heap[w.heap.size]? = some (.cells #[.int .i64 g.nodes, .slice A1 g.lines.length c1, .slice A2 g.srcs.length c2, .slice A3 g.users.length c3] 26 (0, 0)) := by rw [← hw1]; exact heap_alloc_new w _
  have hx2 : w2.heap[w1.heap.size]? = some (.cells #[.int .i64 0, .slice none 0 0, .slice none 0 0, .slice none 0 0] 26 (0, 0)) := by rw [← hw2]; exact heap_alloc_new w1 _
  rw [hs1] at hx2
  have HX : Hid (∀ W, Below w2.heap.size w2 W → Below w.heap.size w W ∧ W.cell? ⟨w.heap.size, 0, none⟩ = some (.int .i64 g.nodes) ∧ W.cell? ⟨w.heap.size, 1, none⟩ = some (.slice A1 g.lines.length c1) ∧ W.cell? ⟨w.heap.size, 2, none⟩ = some (.slice A2 g.srcs.length c2) ∧ W.cell? ⟨w.heap.size, 3, none⟩ = some (.slice A3 g.users.length c3)) := fun W hW => by
    have h1 := (hW.block w.heap.size (by omega)).trans ((hb2.block w.heap.size (by omega)).trans hx1)
    exact ⟨hb1.trans ((hb2.trans (hW.mono (by omega))).mono (by omega)), cell_of_row W _ 0 _ _ _ h1, cell_of_row W _ 1 _ _ _ h1, cell_of_row W _ 2 _ _ _ h1, cell_of_row W _ 3 _ _ _ h1⟩
  have HR : Hid (∀ W, Below w2.heap.size w2 W → W.heap[w.heap.size + 1]? = some (.cells #[.int .i64 0, .slice none 0 0, .slice none 0 0, .slice none 0 0] 26 (0, 0))) := fun W hW => (hW.block _ (by omega)).trans hx2
  have HG : Hid (∀ W, Below w2.heap.size w2 W → GridA W W.heap.size g A1 A2 A3) := fun W hW => by
    have := (HX.out W hW).1
    exact (h.keep this).more this.size
  have HFW := Lib.hid hf
  have hml : g.lines.length ≤ maxLen := h.ls.1
  have hms : g.srcs.length ≤ maxLen := h.ss.1
  have hmu : g.users.length ≤ maxLen := h.us.1
  have HM : Hid (g.lines.length ≤ maxLen ∧ g.srcs.length ≤ maxLen ∧ g.users.length ≤ maxLen) := ⟨hml, hms, hmu⟩
  have HS2 := Lib.hid hs2
  have HKS : Hid (∀ W x y z u, Below w2.heap.size w2 W → ((((W.setCell ⟨w.heap.size + 1, 0, none⟩ x).setCell ⟨w.heap.size + 1, 1, none⟩ y).setCell ⟨w.heap.size + 1, 2, none⟩ z).setCell ⟨w.heap.size + 1, 3, none⟩ u).cell? ⟨w.heap.size, 0, none⟩ = some (.int .i64 g.nodes) ∧ ((((W.setCell ⟨w.heap.size + 1, 0, none⟩ x).setCell ⟨w.heap.size + 1, 1, none⟩ y).setCell ⟨w.heap.size + 1, 2, none⟩ z).setCell ⟨w.heap.size + 1, 3, none⟩ u).cell? ⟨w.heap.size, 1, none⟩ = some (.slice A1 g.lines.length c1) ∧ ((((W.setCell ⟨w.heap.size + 1, 0, none⟩ x).setCell ⟨w.heap.size + 1, 1, none⟩ y).setCell ⟨w.heap.size + 1, 2, none⟩ z).setCell ⟨w.heap.size + 1, 3, none⟩ u).cell? ⟨w.heap.size, 2, none⟩ = some (.slice A2 g.srcs.length c2) ∧ ((((W.setCell ⟨w.heap.size + 1, 0, none⟩ x).setCell ⟨w.heap.size + 1, 1, none⟩ y).setCell ⟨w.heap.size + 1, 2, none⟩ z).setCell ⟨w.heap.size + 1, 3, none⟩ u).cell? ⟨w.heap.size, 3, none⟩ = some (.slice A3 g.users.length c3)) := fun W x y z u hW => by
    have h1 := (hW.block w.heap.size (by omega)).trans ((hb2.block w.heap.size (by omega)).trans hx1)
    have h2 : ((((W.setCell ⟨w.heap.size + 1, 0, none⟩ x).setCell ⟨w.heap.size + 1, 1, none⟩ y).setCell ⟨w.heap.size + 1, 2, none⟩ z).setCell ⟨w.heap.size + 1, 3, none⟩ u).heap[w.heap.size]? = W.heap[w.heap.size]? := by
      rw [Below.heap_setCell _ _ _ _ (show w.heap.size ≠ w.heap.size + 1 by omega), Below.heap_setCell _ _ _ _ (show w.heap.size ≠ w.heap.size + 1 by omega), Below.heap_setCell _ _ _ _ (show w.heap.size ≠ w.heap.size + 1 by omega), Below.heap_setCell _ _ _ _ (show w.heap.size ≠ w.heap.size + 1 by omega)]
    have h3 := h2.trans h1
    exact ⟨cell_of_row _ _ 0 _ _ _ h3, cell_of_row _ _ 1 _ _ _ h3, cell_of_row _ _ 2 _ _ _ h3, cell_of_row _ _ 3 _ _ _ h3⟩
  obtain ⟨_, p0, p1, p2, p3⟩ := HX.out w2 (Below.refl _ _)
  have HB2 : Below w2.heap.size w2 w2.drew := (Below.refl _ _).drew
  have hl2 : w.heap.size < w2.heap.size := by omega
  have hk2 : w.heap.size + 1 < w2.heap.size := by omega
  unfold gridC
  clear h hf hb1 hb2 hx1 hx2 hml hms hmu hs2
  go_enter Try.func40, Try.ntmps40
  go_upto_region 1 with fail
  go_region_held3 (fun W => W.cell? ⟨w.heap.size, 0, none⟩ = some (.int .i64 g.nodes) ∧ W.cell? ⟨w.heap.size, 1, none⟩ = some (.slice A1 g.lines.length c1) ∧ W.cell? ⟨w.heap.size, 2, none⟩ = some (.slice A2 g.srcs.length c2) ∧ W.cell? ⟨w.heap.size, 3, none⟩ = some (.slice A3 g.users.length c3)) (first | (refine (HX.out _ ?_).2; (repeat' (first | assumption | exact Below.refl _ _ | apply bel_alloc | apply bel_drew)); done) | (refine HKS.out _ _ _ _ _ ?_; (repeat' (first | assumption | exact Below.refl _ _ | apply bel_alloc | apply bel_drew)); done) | fail) ((first
    | (refine step_copy _ 22 67 4 32 copyL (by rfl) _ _ (by rfl) _ (by rfl) A1 g.lines.length c1 (lineCell g.lines) (by rfl) ((HG.out _ (by repeat' (first | assumption | exact Below.refl _ _ | apply bel_alloc | apply bel_drew))).ls.2) HM.out.1 (by have := HFW.out.l; omega) ?_; intro B1 d1 w8 hc8 hr8 hb8; have HB8 : Below w2.heap.size w2 w8 := bel_next (by repeat' (first | assumption | exact Below.refl _ _ | apply bel_alloc | apply bel_drew)) hb8; obtain ⟨_, a0, a1, a2, a3⟩ := HX.out w8 HB8; have hl8 : w.heap.size < w8.heap.size := (by have := HB8.size; omega); have hk8 : w.heap.size + 1 < w8.heap.size := (by have := HB8.size; omega))
    | (refine step_copy _ 23 57 2 16 copyS (by rfl) _ _ (by rfl) _ (by rfl) A2 g.srcs.length c2 (srcCell g.srcs) (by rfl) ((HG.out _ (by repeat' (first | assumption | exact Below.refl _ _ | apply bel_alloc | apply bel_drew))).ss.2) HM.out.2.1 (by have := HFW.out.s; omega) ?_; intro B2 d2 w12 hc12 hr12 hb12; have HB12 : Below w2.heap.size w2 w12 := bel_next (by repeat' (first | assumption | exact Below.refl _ _ | apply bel_alloc | apply bel_drew)) hb12; obtain ⟨_, a0, a1, a2, a3⟩ := HX.out w12 HB12; have hl12 : w.heap.size < w12.heap.size := (by have := HB12.size; omega); have hk12 : w.heap.size + 1 < w12.heap.size := (by have := HB12.size; omega))
    | (refine step_copy _ 24 55 3 24 copyU (by rfl) _ _ (by rfl) _ (by rfl) A3 g.users.length c3 (userCell g.users) (by rfl) ((HG.out _ (by repeat' (first | assumption | exact Below.refl _ _ | apply bel_alloc | apply bel_drew))).us.2) HM.out.2.2 (by have := HFW.out.u; omega) ?_; intro B3 d3 w16 hc16 hr16 hb16; have HB16 : Below w2.heap.size w2 w16 := bel_next (by repeat' (first | assumption | exact Below.refl _ _ | apply bel_alloc | apply bel_drew)) hb16; have hh16 := HR.out w16 HB16; have y0 := cell_of_row w16 _ 0 _ _ _ hh16; have y1 := cell_of_row w16 _ 1 _ _ _ hh16; have y2 := cell_of_row w16 _ 2 _ _ _ hh16; have y3 := cell_of_row w16 _ 3 _ _ _ hh16; have f0 := row_frozen hh16 0; have f1 := row_frozen hh16 1; have f2 := row_frozen hh16 2; have f3 := row_frozen hh16 3; simp only [List.getElem?_toArray, List.getElem?_cons_succ, List.getElem?_cons_zero] at y0 y1 y2 y3; clear hh16)
    | fail))
  all_goals
    have K1 : Below w8.heap.size w8 w16 := by repeat' (first | assumption | exact Below.refl _ _ | refine bel_next ?_ hb16 | refine bel_next ?_ hb12 | apply bel_alloc | apply bel_drew)
    have K2 : Below w12.heap.size w12 w16 := by repeat' (first | assumption | exact Below.refl _ _ | refine bel_next ?_ hb16 | refine bel_next ?_ hb12 | apply bel_alloc | apply bel_drew)
    have hs2 := HS2.out
    have s8 : w2.heap.size ≤ w8.heap.size := HB8.size
    have s12 : w2.heap.size ≤ w12.heap.size := HB12.size
    have r8 : RowO w16 w2.heap.size 67 4 B1 g.lines.length (lineCell g.lines) := (hr8.keep K1).base (by simp <;> omega)
    have r12 : RowO w16 w2.heap.size 57 2 B2 g.srcs.length (srcCell g.srcs) := (hr12.keep K2).base (by first | exact s8 | (simp <;> omega))
    have r16 : RowO w16 w2.heap.size 55 3 B3 g.users.length (userCell g.users) := hr16.base (by first | exact s12 | (simp <;> omega))
    have o16 : OwnG w16 w2.heap.size g B1 B2 B3 := ⟨r8, r12, r16⟩
    go_wp2_with fail
    exact bodyPost_ret (results_grid rfl _ _ (w.heap.size + 1) _ rfl rfl (set4_heap (HR.out w16 HB16) _ _ _ _)) rfl ⟨B1, B2, B3, d1, d2, d3, rfl, (set4_own o16 (by omega) _ _ _ _).base (by omega), ⟨hc8, hc12, hc16⟩, set4_below (HX.out w16 HB16).1 (by omega) _ _ _ _⟩
end Go.Proofs.Ytegclodchhcbaaa
