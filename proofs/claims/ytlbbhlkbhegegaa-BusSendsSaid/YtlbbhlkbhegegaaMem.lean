/- Words for memory: what a slice of ints, of bools, of gates, of flows reads as, and how it is kept. -/
import Derived.WalkKit
import Derived.WalkSpells
import Derived.WalkLawsBesides
import Derived.Lib.Hide
import Derived.Deep.QuietTactic
import Derived.BigQuiet
namespace Go.Proofs.Ytlbbhlkbhegegaa
open Go.RowKit

theorem bcell {B : Nat} {W w1 : World} (hb : Below B W w1) (b o : Nat) (h : b < B) : w1.cell? ⟨b, o, none⟩ = W.cell? ⟨b, o, none⟩ :=
  hb.cell (p := ⟨b, o, none⟩) h
theorem bfrozen {B : Nat} {W w1 : World} (hb : Below B W w1) (b o : Nat) (h : b < B) : w1.frozen? ⟨b, o, none⟩ = W.frozen? ⟨b, o, none⟩ :=
  hb.frozen (p := ⟨b, o, none⟩) h
theorem acell (w : World) (o : Obj) (b k : Nat) (h : b < w.heap.size) : (w.alloc o).cell? ⟨b, k, none⟩ = w.cell? ⟨b, k, none⟩ :=
  World.cell?_alloc_lt w o ⟨b, k, none⟩ h
theorem newcell (w : World) (cs : Array Value) (t k : Nat) : (w.alloc (.cells cs t)).cell? ⟨w.heap.size, k, none⟩ = cs[k]? := by
  rw [cell_of_row (w.alloc (.cells cs t)) w.heap.size k cs t (0, 0) (heap_alloc_new w _)]

/-- n elements of 'size' cells each at A, whose cells are f i j -/
def SlA (w : World) (B size : Nat) (A : Option Addr) (n : Nat) (f : Nat → Nat → Value) : Prop :=
  0 < n → ∃ b off, A = some ⟨b, off, none⟩ ∧ b < B ∧ ∀ i j, i < n → j < size → w.cell? ⟨b, off + i * size + j, none⟩ = some (f i j)
theorem SlA.below {w w' : World} {B B' size n : Nat} {A : Option Addr} {f : Nat → Nat → Value} (h : SlA w B size A n f) (hb : Below B' w w') (hB : B ≤ B') : SlA w' B' size A n f := fun hn => by
  obtain ⟨b, off, hA, hlt, hc⟩ := h hn
  exact ⟨b, off, hA, by omega, fun i j hi hj => (bcell hb _ _ (by omega)).trans (hc i j hi hj)⟩

/-- a slice of ints -/
def IntsA (w : World) (B : Nat) (A : Option Addr) (l : List Int) : Prop :=
  l.length ≤ maxLen ∧ (0 < l.length → ∃ b off, A = some ⟨b, off, none⟩ ∧ b < B ∧ ∀ i, i < l.length → w.cell? ⟨b, off + i, none⟩ = some (.int .i64 (l.getD i 0)))
theorem IntsA.below {w w' : World} {B B' : Nat} {A : Option Addr} {l : List Int} (h : IntsA w B A l) (hb : Below B' w w') (hB : B ≤ B') : IntsA w' B' A l := ⟨h.1, fun hn => by
  obtain ⟨b, off, hA, hlt, hc⟩ := h.2 hn
  exact ⟨b, off, hA, by omega, fun i hi => (bcell hb _ _ (by omega)).trans (hc i hi)⟩⟩
theorem IntsA.more {w : World} {B B' : Nat} {A : Option Addr} {l : List Int} (h : IntsA w B A l) (hB : B ≤ B') : IntsA w B' A l := ⟨h.1, fun hn => by
  obtain ⟨b, off, hA, hlt, hc⟩ := h.2 hn
  exact ⟨b, off, hA, by omega, hc⟩⟩
theorem IntsA.drewN {w : World} {B : Nat} {A : Option Addr} {l : List Int} (h : IntsA w B A l) (n : Nat) : IntsA (w.drewN n) B A l := h
theorem IntsA.alloc {w : World} {B B' : Nat} {A : Option Addr} {l : List Int} (h : IntsA w B A l) (hB : B ≤ w.heap.size) (o : Obj) (hB' : B ≤ B') : IntsA (w.alloc o) B' A l := ⟨h.1, fun hn => by
  obtain ⟨b, off, hA, hlt, hc⟩ := h.2 hn
  exact ⟨b, off, hA, by omega, fun i hi => (acell w o _ _ (by omega)).trans (hc i hi)⟩⟩
theorem IntsA.take {w : World} {B : Nat} {A : Option Addr} {l : List Int} (h : IntsA w B A l) (k : Nat) : IntsA w B A (l.take k) := by
  refine ⟨by rw [List.length_take]; have := h.1; omega, fun hn => ?_⟩
  rw [List.length_take] at hn
  obtain ⟨b, off, hA, hlt, hc⟩ := h.2 (by omega)
  refine ⟨b, off, hA, hlt, fun i hi => ?_⟩
  rw [List.length_take] at hi
  rw [hc i (by omega)]
  simp [List.getD_eq_getElem?_getD, show i < k by omega]
theorem IntsA.at_ {w : World} {B : Nat} {A : Option Addr} {l : List Int} (h : IntsA w B A l) {k : Nat} (hk : k < l.length) :
    ∃ b off, A = some ⟨b, off, none⟩ ∧ b < B ∧ w.cell? ⟨b, off + k, none⟩ = some (.int .i64 (l.getD k 0)) := by
  obtain ⟨b, off, hA, hlt, hc⟩ := h.2 (by omega)
  exact ⟨b, off, hA, hlt, hc k hk⟩

/-- a callee that leaves the world alone, inside a region that draws -/
theorem quiet_w {P : Program} {f : FuncId} {args : Array Value} {w : World} {n : Nat} {v : Value}
    (h : Calls P f args (w.drewN n) fun e w' => e = .returned v ∧ w.drewN n = w') : Calls P f args (w.drewN n) fun e w'' => e = .returned v ∧ ∃ m, w'' = w.drewN m :=
  h.mono fun _ _ ⟨he, hm⟩ => ⟨he, n, hm.symm⟩
theorem ret_b {a b : Bool} (h : a = b) : Ending.returned (.bool a) = .returned (.bool b) := by rw [h]
theorem ret_i {a b : Int} (h : a = b) : Ending.returned (.int .i64 a) = .returned (.int .i64 b) := by rw [h]
theorem int_c {a b : Int} (h : a = b) : Value.int .i64 a = Value.int .i64 b := by rw [h]

/-- where a number stands first, or -1 -/
def idxI (l : List Int) (x : Int) : Int := if l.contains x then (l.idxOf x : Int) else -1
theorem idxI_hit {l : List Int} {x : Int} {k : Nat} (hk : k < l.length) (h : ∀ j, j < k → l.getD j 0 ≠ x) (he : l.getD k 0 = x) : idxI l x = k := by
  have hm : x ∈ l := by rw [← he, List.getD_eq_getElem?_getD, List.getElem?_eq_getElem hk]; exact List.getElem_mem hk
  have hi : l.idxOf x = k := by
    induction l generalizing k with
    | nil => cases hk
    | cons y r ih =>
      cases k with
      | zero => simp at he; subst he; simp
      | succ k =>
        have h0 := h 0 (by omega)
        simp at h0
        rw [List.idxOf_cons, show (y == x) = false from by simpa using h0]
        have := ih (k := k) (by simpa using hk) (fun j hj => by have := h (j + 1) (by omega); simpa using this) (by simpa using he) (by
          rcases List.mem_cons.1 hm with e | e
          · exact absurd e.symm h0
          · exact e)
        simp [this]
  unfold idxI
  rw [if_pos (by simpa using hm), hi]
theorem idxI_miss {l : List Int} {x : Int} (h : ∀ j, j < l.length → l.getD j 0 ≠ x) : idxI l x = -1 := by
  unfold idxI
  rw [if_neg]
  intro hm
  have hm : x ∈ l := by simpa using hm
  obtain ⟨j, hj, rfl⟩ := List.mem_iff_getElem.1 hm
  exact h j hj (by rw [List.getD_eq_getElem?_getD, List.getElem?_eq_getElem hj]; rfl)
theorem idxI_ge (l : List Int) (x : Int) : decide (0 ≤ idxI l x) = l.contains x := by
  unfold idxI
  by_cases h : l.contains x = true
  · rw [if_pos h, h]; simp
  · rw [if_neg h]
    have : l.contains x = false := by simpa using h
    rw [this]; simp
theorem contains_hit {l : List Int} {x : Int} {k : Nat} (hk : k < l.length) (he : l.getD k 0 = x) : l.contains x = true := by
  have hm : x ∈ l := by rw [← he, List.getD_eq_getElem?_getD, List.getElem?_eq_getElem hk]; exact List.getElem_mem hk
  simpa using hm
theorem contains_miss {l : List Int} {x : Int} (h : ∀ j, j < l.length → l.getD j 0 ≠ x) : l.contains x = false := by
  have := idxI_ge l x
  rw [idxI_miss h] at this
  rw [← this]; rfl
/-- 'contains', under a name that simp does not open -/
def hasI (l : List Int) (x : Int) : Bool := l.contains x
theorem hasI_hit {l : List Int} {x : Int} {k : Nat} (hk : k < l.length) (he : l.getD k 0 = x) : hasI l x = true := contains_hit hk he
theorem hasI_miss {l : List Int} {x : Int} (h : ∀ j, j < l.length → l.getD j 0 ≠ x) : hasI l x = false := contains_miss h
theorem idxI_has (l : List Int) (x : Int) : decide (0 ≤ idxI l x) = hasI l x := idxI_ge l x
end Go.Proofs.Ytlbbhlkbhegegaa
