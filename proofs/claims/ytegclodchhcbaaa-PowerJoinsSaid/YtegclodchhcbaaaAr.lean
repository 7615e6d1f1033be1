/- Rows and tables of ints by value and in memory; a queue in memory. -/
import Derived.Test.YtegclodchhcbaaaBa
import Derived.Test.YtegclodchhcbaaaBf
import Derived.Deep.WholeRow
import Derived.Deep.MidRow
import Derived.ArgAppend
namespace Go.Proofs.Ytegclodchhcbaaa
open Go.RowKit

def RowB (C : Array Value) (f : Nat → Int) : Prop := C.size = 22 ∧ ∀ i, i < 22 → C[i]? = some (.int .i64 (f i))
def TabC (C : Array Value) (c : Tab) : Prop := C.size = 484 ∧ ∀ i k, i < 22 → k < 22 → C[i * 22 + k]? = some (.int .i64 (c i k))
def RowA (w : World) (g : Nat) (f : Nat → Int) : Prop := ∃ C, w.heap[g]? = some (.cells C 83 (0, 0)) ∧ RowB C f
def TabA (w : World) (g : Nat) (c : Tab) : Prop := ∃ C, w.heap[g]? = some (.cells C 86 (0, 0)) ∧ TabC C c
theorem RowA.keep {w w' : World} {g : Nat} {f : Nat → Int} (h : RowA w g f) (hk : w'.heap[g]? = w.heap[g]?) : RowA w' g f := by
  obtain ⟨C, h1, h2⟩ := h
  exact ⟨C, hk.trans h1, h2⟩
theorem TabA.keep {w w' : World} {g : Nat} {c : Tab} (h : TabA w g c) (hk : w'.heap[g]? = w.heap[g]?) : TabA w' g c := by
  obtain ⟨C, h1, h2⟩ := h
  exact ⟨C, hk.trans h1, h2⟩
theorem lt_of_cells {w : World} {g : Nat} {o : Obj} (h : w.heap[g]? = some o) : g < w.heap.size := by
  rcases Nat.lt_or_ge g w.heap.size with hlt | hge
  · exact hlt
  · rw [Array.getElem?_eq_none hge] at h; cases h
theorem RowA.lt {w : World} {g : Nat} {f : Nat → Int} (h : RowA w g f) : g < w.heap.size := by
  obtain ⟨C, h1, _⟩ := h
  exact lt_of_cells h1
theorem TabA.lt {w : World} {g : Nat} {c : Tab} (h : TabA w g c) : g < w.heap.size := by
  obtain ⟨C, h1, _⟩ := h
  exact lt_of_cells h1
theorem row_frozen {w : World} {g : Nat} {cs : Array Value} {t : TypeId} (h : w.heap[g]? = some (.cells cs t (0, 0))) (k : Nat) : w.frozen? ⟨g, k, none⟩ = false := by
  simp [World.frozen?, h]
theorem RowA.cell {w : World} {g : Nat} {f : Nat → Int} (h : RowA w g f) {i : Nat} (hi : i < 22) : w.cell? ⟨g, i, none⟩ = some (.int .i64 (f i)) := by
  obtain ⟨C, h1, h2⟩ := h
  rw [cell_of_row w g i C 83 (0, 0) h1]
  exact h2.2 i hi
theorem RowA.fr {w : World} {g : Nat} {f : Nat → Int} (h : RowA w g f) (i : Nat) : w.frozen? ⟨g, i, none⟩ = false := by
  obtain ⟨C, h1, h2⟩ := h
  exact row_frozen h1 i
theorem TabA.cell {w : World} {g : Nat} {c : Tab} (h : TabA w g c) {i k : Nat} (hi : i < 22) (hk : k < 22) : w.cell? ⟨g, i * 22 + k, none⟩ = some (.int .i64 (c i k)) := by
  obtain ⟨C, h1, h2⟩ := h
  rw [cell_of_row w g _ C 86 (0, 0) h1]
  exact h2.2 i k hi hk
theorem TabA.fr {w : World} {g : Nat} {c : Tab} (h : TabA w g c) (i : Nat) : w.frozen? ⟨g, i, none⟩ = false := by
  obtain ⟨C, h1, h2⟩ := h
  exact row_frozen h1 i
theorem RowB.set {C : Array Value} {f : Nat → Int} (h : RowB C f) (i : Nat) (v : Int) : RowB (C.setIfInBounds i (.int .i64 v)) (setB f i v) := by
  refine ⟨by simpa using h.1, fun j hj => ?_⟩
  rw [Array.getElem?_setIfInBounds]
  unfold setB
  by_cases e : i = j
  · subst e
    rw [if_pos rfl, if_pos (by rw [h.1]; exact hj), if_pos rfl]
  · rw [if_neg e, if_neg (Ne.symm e)]
    exact h.2 j hj
theorem TabC.set {C : Array Value} {c : Tab} (h : TabC C c) {i k : Nat} (hk : k < 22) (v : Int) : TabC (C.setIfInBounds (i * 22 + k) (.int .i64 v)) (upd c i k v) := by
  refine ⟨by simpa using h.1, fun x y hx hy => ?_⟩
  rw [Array.getElem?_setIfInBounds]
  unfold upd
  by_cases e : x = i ∧ y = k
  · obtain ⟨rfl, rfl⟩ := e
    rw [if_pos rfl, if_pos (by rw [h.1]; omega), if_pos ⟨rfl, rfl⟩]
  · rw [if_neg (by omega), if_neg e]
    exact h.2 x y hx hy
theorem RowA.set {w : World} {g : Nat} {f : Nat → Int} (h : RowA w g f) (i : Nat) (v : Int) : RowA (w.setCell ⟨g, i, none⟩ (.int .i64 v)) g (setB f i v) := by
  obtain ⟨C, h1, h2⟩ := h
  exact ⟨_, heap_setCell_same w g i C 83 _ h1, h2.set i v⟩
theorem TabA.set {w : World} {g : Nat} {c : Tab} (h : TabA w g c) {i k : Nat} (hk : k < 22) (v : Int) : TabA (w.setCell ⟨g, i * 22 + k, none⟩ (.int .i64 v)) g (upd c i k v) := by
  obtain ⟨C, h1, h2⟩ := h
  exact ⟨_, heap_setCell_same w g (i * 22 + k) C 86 _ h1, h2.set hk v⟩
theorem row_zero : RowB #[.int .i64 0, .int .i64 0, .int .i64 0, .int .i64 0, .int .i64 0, .int .i64 0, .int .i64 0, .int .i64 0, .int .i64 0, .int .i64 0, .int .i64 0, .int .i64 0, .int .i64 0, .int .i64 0, .int .i64 0, .int .i64 0, .int .i64 0, .int .i64 0, .int .i64 0, .int .i64 0, .int .i64 0, .int .i64 0] (fun _ => 0) := by
  have e : (#[.int .i64 0, .int .i64 0, .int .i64 0, .int .i64 0, .int .i64 0, .int .i64 0, .int .i64 0, .int .i64 0, .int .i64 0, .int .i64 0, .int .i64 0, .int .i64 0, .int .i64 0, .int .i64 0, .int .i64 0, .int .i64 0, .int .i64 0, .int .i64 0, .int .i64 0, .int .i64 0, .int .i64 0, .int .i64 0] : Array Value) = Array.replicate 22 (.int .i64 0) := rfl
  rw [e]
  exact ⟨by simp, fun i hi => by rw [Array.getElem?_replicate, if_pos hi]⟩
theorem tab_zero : TabC (Array.replicate 484 (.int .i64 0)) (fun _ _ => 0) := ⟨by simp, fun i k hi hk => by rw [Array.getElem?_replicate, if_pos (by omega)]⟩
theorem zero86 : (∀ w, (zeroValue 86).run Try.prog w = .ok (.agg (Array.replicate 484 (.int .i64 0))) w) ∧ (Try.prog.info? 86).map (·.size) = some 484 := zero_of_info (by kernel_rfl)
theorem size83 : (Try.prog.info? 83).map (·.size) = some 22 := by kernel_rfl
theorem run_index83 {R : Array Value} {f : Nat → Int} (h : RowB R f) {j : Nat} (hj : j < 22) (w : World) : (Instr.index 83 (.agg R) (.int .i64 (j : Int))).run Try.prog w = .ok (.int .i64 (f j)) w := by
  have h2 := h.2 j hj
  have hu : Try.prog.underlying 83 = some (.array 22 3) := Try.underlying83
  have hj' : 0 ≤ (j : Int) ∧ (j : Int) < (22 : Nat) := by omega
  simp [Instr.index, run_underlying hu, asIntOf, hj', part, h2, go_sem]
  intro hge
  omega
theorem RowA.load {w : World} {g : Nat} {f : Nat → Int} (h : RowA w g f) : ∃ C, RowB C f ∧ w.heap[g]? = some (.cells C 83 (0, 0)) ∧ (loadCellsFrom ⟨g, 0, none⟩ 0 22 #[]).run Try.prog w = .ok C w := by
  obtain ⟨C, h1, h2⟩ := h
  refine ⟨C, h2, h1, ?_⟩
  have := run_loadCells_list (P := Try.prog) w ⟨g, 0, none⟩ C.toList (fun j v hv => by
    have hadd : (⟨g, 0, none⟩ : Addr).add j = ⟨g, j, none⟩ := by unfold Addr.add; split <;> simp_all
    rw [hadd, cell_of_row _ _ j C 83 (0, 0) h1]
    simpa using hv)
  simpa [loadCells, h2.1] using this
theorem TabA.row {w : World} {g : Nat} {c : Tab} (h : TabA w g c) {i : Nat} (hi : i < 22) : ∃ R : List Value, RowB R.toArray (c i) ∧ w.rangeAt g (i * 22) R ∧ (Try.prog.info? 83).map (·.size) = some R.length := by
  refine ⟨(List.range 22).map fun k => Value.int .i64 (c i k), ⟨by simp, fun k hk => by simp [hk]⟩, fun j v hv => ?_, by simpa using size83⟩
  have hjl : j < 22 := by
    rcases Nat.lt_or_ge j 22 with hh | hh
    · exact hh
    · rw [List.getElem?_eq_none (by simpa using hh)] at hv; cases hv
  rw [h.cell hi hjl]
  simpa [hjl] using hv
theorem RowB.one {C : Array Value} {f : Nat → Int} (h : RowB C f) : C.all (·.oneCell') = true := by
  rw [Array.all_eq_true]
  intro i hi
  have := h.2 i (by rw [← h.1]; exact hi)
  rw [Array.getElem?_eq_getElem hi] at this
  injection this with this
  rw [this]
  rfl
theorem TabC.one {C : Array Value} {c : Tab} (h : TabC C c) : C.all (·.oneCell') = true := by
  rw [Array.all_eq_true]
  intro i hi
  have h1 := h.1
  have := h.2 (i / 22) (i % 22) (by omega) (by omega)
  rw [show i / 22 * 22 + i % 22 = i by omega, Array.getElem?_eq_getElem hi] at this
  injection this with this
  rw [this]
  rfl
theorem RowB.sz {C : Array Value} {f : Nat → Int} (h : RowB C f) : (Try.prog.info? 83).map (·.size) = some C.size := by rw [size83, h.1]
theorem TabC.sz {C : Array Value} {c : Tab} (h : TabC C c) : (Try.prog.info? 86).map (·.size) = some C.size := by rw [zero86.2, h.1]
theorem below_setRow {B : Nat} {a w : World} (h : Below B a w) {g : Nat} (hg : B ≤ g) (C : Array Value) : Below B a (w.setRow g C) :=
  h.trans ⟨rfl, rfl, rfl, by simp, fun k hk => setRow_other w g k C (by omega)⟩
theorem RowA.congr {w : World} {g : Nat} {f f' : Nat → Int} (h : RowA w g f) (he : ∀ i, i < 22 → f i = f' i) : RowA w g f' := by
  obtain ⟨C, h1, h2, h3⟩ := h
  exact ⟨C, h1, h2, fun i hi => by rw [h3 i hi, he i hi]⟩
def cellI (w : World) (a : Addr) : Int := match w.cell? a with | some (.int _ n) => n | _ => 0
def lenC (w : World) (a : Addr) : Nat := match w.cell? a with | some (.slice _ n _) => n | _ => 0
def muQ (w : World) (r q : Nat) : Nat := 2 * (22 - cntN (fun k => cellI w ⟨r, k, none⟩) 22) + lenC w ⟨q, 0, none⟩
theorem muQ_of {w : World} {r q : Nat} {f : Nat → Int} {A : Option Addr} {n cap : Nat} (h : RowA w r f) (hq : w.cell? ⟨q, 0, none⟩ = some (.slice A n cap)) : muQ w r q = 2 * (22 - cntN f 22) + n := by
  unfold muQ lenC
  rw [hq, cntN_congr (back' := f) fun k hk => by unfold cellI; rw [h.cell hk]]
end Go.Proofs.Ytegclodchhcbaaa
