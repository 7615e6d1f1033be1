/- Words for memory; arrays of the call's own; a region's tail; regions whose callees make memory; operations. -/
import Derived.WalkKit
import Derived.WalkSpells
import Derived.WalkLawsBesides
import Derived.Lib.Hide
import Derived.Deep.QuietTactic
import Derived.BigQuiet
import Derived.StillTail
import Derived.Test.YtegclodchhcbaaaProg
/- Words for memory: what a slice of ints, of bools, of gates, of flows reads as, and how it is kept. -/
namespace Go.Proofs.Ytegclodchhcbaaa
open Go.RowKit

theorem bcell {B : Nat} {W w1 : World} (hb : Below B W w1) (b o : Nat) (h : b < B) : w1.cell? ⟨b, o, none⟩ = W.cell? ⟨b, o, none⟩ :=
  hb.cell (p := ⟨b, o, none⟩) h
theorem bfrozen {B : Nat} {W w1 : World} (hb : Below B W w1) (b o : Nat) (h : b < B) : w1.frozen? ⟨b, o, none⟩ = W.frozen? ⟨b, o, none⟩ :=
  hb.frozen (p := ⟨b, o, none⟩) h
theorem acell (w : World) (o : Obj) (b k : Nat) (h : b < w.heap.size) : (w.alloc o).cell? ⟨b, k, none⟩ = w.cell? ⟨b, k, none⟩ :=
  World.cell?_alloc_lt w o ⟨b, k, none⟩ h
theorem newcell (w : World) (cs : Array Value) (t k : Nat) : (w.alloc (.cells cs t)).cell? ⟨w.heap.size, k, none⟩ = cs[k]? := by
  rw [cell_of_row (w.alloc (.cells cs t)) w.heap.size k cs t (0, 0) (heap_alloc_new w _)]

/-- n elements of 'size' cells each at A, whose cells are f i j -/
def SlA (w : World) (B size : Nat) (A : Option Addr) (n : Nat) (f : Nat → Nat → Value) : Prop :=
  0 < n → ∃ b off, A = some ⟨b, off, none⟩ ∧ b < B ∧ ∀ i j, i < n → j < size → w.cell? ⟨b, off + i * size + j, none⟩ = some (f i j)
theorem SlA.below {w w' : World} {B B' size n : Nat} {A : Option Addr} {f : Nat → Nat → Value} (h : SlA w B size A n f) (hb : Below B' w w') (hB : B ≤ B') : SlA w' B' size A n f := fun hn => by
  obtain ⟨b, off, hA, hlt, hc⟩ := h hn
  exact ⟨b, off, hA, by omega, fun i j hi hj => (bcell hb _ _ (by omega)).trans (hc i j hi hj)⟩

/-- a slice of ints -/
def IntsA (w : World) (B : Nat) (A : Option Addr) (l : List Int) : Prop :=
  l.length ≤ maxLen ∧ (0 < l.length → ∃ b off, A = some ⟨b, off, none⟩ ∧ b < B ∧ ∀ i, i < l.length → w.cell? ⟨b, off + i, none⟩ = some (.int .i64 (l.getD i 0)))
theorem IntsA.below {w w' : World} {B B' : Nat} {A : Option Addr} {l : List Int} (h : IntsA w B A l) (hb : Below B' w w') (hB : B ≤ B') : IntsA w' B' A l := ⟨h.1, fun hn => by
  obtain ⟨b, off, hA, hlt, hc⟩ := h.2 hn
  exact ⟨b, off, hA, by omega, fun i hi => (bcell hb _ _ (by omega)).trans (hc i hi)⟩⟩
theorem IntsA.more {w : World} {B B' : Nat} {A : Option Addr} {l : List Int} (h : IntsA w B A l) (hB : B ≤ B') : IntsA w B' A l := ⟨h.1, fun hn => by
  obtain ⟨b, off, hA, hlt, hc⟩ := h.2 hn
  exact ⟨b, off, hA, by omega, hc⟩⟩
theorem IntsA.drewN {w : World} {B : Nat} {A : Option Addr} {l : List Int} (h : IntsA w B A l) (n : Nat) : IntsA (w.drewN n) B A l := h
theorem IntsA.alloc {w : World} {B B' : Nat} {A : Option Addr} {l : List Int} (h : IntsA w B A l) (hB : B ≤ w.heap.size) (o : Obj) (hB' : B ≤ B') : IntsA (w.alloc o) B' A l := ⟨h.1, fun hn => by
  obtain ⟨b, off, hA, hlt, hc⟩ := h.2 hn
  exact ⟨b, off, hA, by omega, fun i hi => (acell w o _ _ (by omega)).trans (hc i hi)⟩⟩
theorem IntsA.take {w : World} {B : Nat} {A : Option Addr} {l : List Int} (h : IntsA w B A l) (k : Nat) : IntsA w B A (l.take k) := by
  refine ⟨by rw [List.length_take]; have := h.1; omega, fun hn => ?_⟩
  rw [List.length_take] at hn
  obtain ⟨b, off, hA, hlt, hc⟩ := h.2 (by omega)
  refine ⟨b, off, hA, hlt, fun i hi => ?_⟩
  rw [List.length_take] at hi
  rw [hc i (by omega)]
  simp [List.getD_eq_getElem?_getD, show i < k by omega]
theorem IntsA.at_ {w : World} {B : Nat} {A : Option Addr} {l : List Int} (h : IntsA w B A l) {k : Nat} (hk : k < l.length) :
    ∃ b off, A = some ⟨b, off, none⟩ ∧ b < B ∧ w.cell? ⟨b, off + k, none⟩ = some (.int .i64 (l.getD k 0)) := by
  obtain ⟨b, off, hA, hlt, hc⟩ := h.2 (by omega)
  exact ⟨b, off, hA, hlt, hc k hk⟩

/-- a callee that leaves the world alone, inside a region that draws -/
theorem quiet_w {P : Program} {f : FuncId} {args : Array Value} {w : World} {n : Nat} {v : Value}
    (h : Calls P f args (w.drewN n) fun e w' => e = .returned v ∧ w.drewN n = w') : Calls P f args (w.drewN n) fun e w'' => e = .returned v ∧ ∃ m, w'' = w.drewN m :=
  h.mono fun _ _ ⟨he, hm⟩ => ⟨he, n, hm.symm⟩
theorem ret_b {a b : Bool} (h : a = b) : Ending.returned (.bool a) = .returned (.bool b) := by rw [h]
theorem ret_i {a b : Int} (h : a = b) : Ending.returned (.int .i64 a) = .returned (.int .i64 b) := by rw [h]
theorem int_c {a b : Int} (h : a = b) : Value.int .i64 a = Value.int .i64 b := by rw [h]

/-- where a number stands first, or -1 -/
def idxI (l : List Int) (x : Int) : Int := if l.contains x then (l.idxOf x : Int) else -1
theorem idxI_hit {l : List Int} {x : Int} {k : Nat} (hk : k < l.length) (h : ∀ j, j < k → l.getD j 0 ≠ x) (he : l.getD k 0 = x) : idxI l x = k := by
  have hm : x ∈ l := by rw [← he, List.getD_eq_getElem?_getD, List.getElem?_eq_getElem hk]; exact List.getElem_mem hk
  have hi : l.idxOf x = k := by
    induction l generalizing k with
    | nil => cases hk
    | cons y r ih =>
      cases k with
      | zero => simp at he; subst he; simp
      | succ k =>
        have h0 := h 0 (by omega)
        simp at h0
        rw [List.idxOf_cons, show (y == x) = false from by simpa using h0]
        have := ih (k := k) (by simpa using hk) (fun j hj => by have := h (j + 1) (by omega); simpa using this) (by simpa using he) (by
          rcases List.mem_cons.1 hm with e | e
          · exact absurd e.symm h0
          · exact e)
        simp [this]
  unfold idxI
  rw [if_pos (by simpa using hm), hi]
theorem idxI_miss {l : List Int} {x : Int} (h : ∀ j, j < l.length → l.getD j 0 ≠ x) : idxI l x = -1 := by
  unfold idxI
  rw [if_neg]
  intro hm
  have hm : x ∈ l := by simpa using hm
  obtain ⟨j, hj, rfl⟩ := List.mem_iff_getElem.1 hm
  exact h j hj (by rw [List.getD_eq_getElem?_getD, List.getElem?_eq_getElem hj]; rfl)
theorem idxI_ge (l : List Int) (x : Int) : decide (0 ≤ idxI l x) = l.contains x := by
  unfold idxI
  by_cases h : l.contains x = true
  · rw [if_pos h, h]; simp
  · rw [if_neg h]
    have : l.contains x = false := by simpa using h
    rw [this]; simp
theorem contains_hit {l : List Int} {x : Int} {k : Nat} (hk : k < l.length) (he : l.getD k 0 = x) : l.contains x = true := by
  have hm : x ∈ l := by rw [← he, List.getD_eq_getElem?_getD, List.getElem?_eq_getElem hk]; exact List.getElem_mem hk
  simpa using hm
theorem contains_miss {l : List Int} {x : Int} (h : ∀ j, j < l.length → l.getD j 0 ≠ x) : l.contains x = false := by
  have := idxI_ge l x
  rw [idxI_miss h] at this
  rw [← this]; rfl
/-- 'contains', under a name that simp does not open -/
def hasI (l : List Int) (x : Int) : Bool := l.contains x
theorem hasI_hit {l : List Int} {x : Int} {k : Nat} (hk : k < l.length) (he : l.getD k 0 = x) : hasI l x = true := contains_hit hk he
theorem hasI_miss {l : List Int} {x : Int} (h : ∀ j, j < l.length → l.getD j 0 ≠ x) : hasI l x = false := contains_miss h
theorem idxI_has (l : List Int) (x : Int) : decide (0 ≤ idxI l x) = hasI l x := idxI_ge l x
end Go.Proofs.Ytegclodchhcbaaa

/- Arrays of the call's own, told by a function; rows that were appended to. -/
namespace Go.Proofs.Ytegclodchhcbaaa
open Go.RowKit

/-- block g holds, in its first n cells (one an element), what f says -/
def OwnF (w : World) (g : Nat) (T : TypeId) (n : Nat) (f : Nat → Value) : Prop :=
  ∃ C : Array Value, w.heap[g]? = some (.cells C T (0, 0)) ∧ n ≤ C.size ∧ ∀ j, j < n → C[j]? = some (f j)
section
variable {w w' : World} {g T n : Nat} {f : Nat → Value}
theorem OwnF.lt (h : OwnF w g T n f) : g < w.heap.size := by
  obtain ⟨C, hC, _⟩ := h
  rcases Nat.lt_or_ge g w.heap.size with hlt | hge
  · exact hlt
  · rw [Array.getElem?_eq_none hge] at hC; cases hC
theorem OwnF.cell (h : OwnF w g T n f) {j : Nat} (hj : j < n) : w.cell? ⟨g, j, none⟩ = some (f j) := by
  obtain ⟨C, hC, _, hf⟩ := h
  rw [cell_of_row w g j C T (0, 0) hC, hf j hj]
theorem OwnF.frozen (h : OwnF w g T n f) (j : Nat) : w.frozen? ⟨g, j, none⟩ = false := by
  obtain ⟨C, hC, _⟩ := h
  simp [World.frozen?, hC]
theorem OwnF.below {B : Nat} (h : OwnF w g T n f) (hb : Below B w w') (hg : g < B) : OwnF w' g T n f := by
  obtain ⟨C, hC, r⟩ := h
  exact ⟨C, (hb.block g hg).trans hC, r⟩
theorem OwnF.grown {row : Option Nat} (h : OwnF w g T n f) (hb : w.grownBy w' row) (hg : some g ≠ row) : OwnF w' g T n f := by
  have hlt := h.lt
  obtain ⟨C, hC, r⟩ := h
  exact ⟨C, (hb.block g hlt hg).trans hC, r⟩
theorem OwnF.alloc (h : OwnF w g T n f) (o : Obj) : OwnF (w.alloc o) g T n f := by
  have hlt := h.lt
  obtain ⟨C, hC, r⟩ := h
  exact ⟨C, (Below.heap_alloc w o g hlt).trans hC, r⟩
theorem OwnF.drewN (h : OwnF w g T n f) (k : Nat) : OwnF (w.drewN k) g T n f := h
theorem OwnF.far (h : OwnF w g T n f) {p : Addr} (hp : g ≠ p.block) (u : Value) : OwnF (w.setCell p u) g T n f := by
  obtain ⟨C, hC, r⟩ := h
  exact ⟨C, (Below.heap_setCell w p u g hp).trans hC, r⟩
theorem OwnF.set (h : OwnF w g T n f) (j : Nat) (u : Value) : OwnF (w.setCell ⟨g, j, none⟩ u) g T n (fun i => if i = j then u else f i) := by
  obtain ⟨C, hC, hs, hf⟩ := h
  refine ⟨C.setIfInBounds j u, by simp only [World.setCell]; rw [Array.getElem?_modify, if_pos rfl, hC]; rfl, by simpa using hs, fun i hi => ?_⟩
  show _ = some (if i = j then u else f i)
  rw [Array.getElem?_setIfInBounds]
  by_cases hij : j = i
  · subst hij
    simp [show j < C.size by omega]
  · rw [if_neg hij, if_neg (show ¬ i = j from fun e => hij e.symm), hf i hi]
theorem OwnF.congr {f' : Nat → Value} (h : OwnF w g T n f) (he : ∀ j, j < n → f j = f' j) : OwnF w g T n f' := by
  obtain ⟨C, hC, hs, hf⟩ := h
  exact ⟨C, hC, hs, fun j hj => by rw [hf j hj, he j hj]⟩
theorem OwnF.ints {l : List Int} (h : OwnF w g T l.length (fun j => .int .i64 (l.getD j 0))) (hl : l.length ≤ maxLen) : IntsA w w.heap.size (some ⟨g, 0, none⟩) l :=
  ⟨hl, fun _ => ⟨g, 0, rfl, h.lt, fun i hi => by rw [Nat.zero_add]; exact h.cell hi⟩⟩
theorem OwnF.of_row {base size cap : Nat} {xs : List Value} (h : w.ownsRow base T size (.slice (some ⟨g, 0, none⟩) n cap) n xs) (hs : size = 1) : OwnF w g T n (fun j => xs.getD j undef) := by
  subst hs
  obtain ⟨hl, h⟩ := h
  rcases h with ⟨hv, _⟩ | ⟨g', cap', cur, hv, _, hh, hn, _, hsz, htk⟩
  · cases hv
  · injection hv with hA _ _
    injection hA with hA
    injection hA with hA
    subst hA
    refine ⟨cur, hh, by omega, fun j hj => ?_⟩
    have hj' : j < xs.length := by omega
    have h1 : xs[j]? = (cur.toList.take (n * 1))[j]? := by rw [htk]
    rw [List.getElem?_take, if_pos (by omega)] at h1
    show _ = some (xs.getD j undef)
    rw [List.getD_eq_getElem?_getD, List.getElem?_eq_getElem hj']
    rw [List.getElem?_eq_getElem hj'] at h1
    rw [← Array.getElem?_toList, ← h1]
    rfl
end
/-- a list of ints in memory of the call's own -/
def OutI (w : World) (base : Nat) (v : Value) (l : List Int) : Prop := w.ownsRow base 3 1 v l.length (l.map (Value.int .i64))
theorem OutI.nil (w : World) (base : Nat) : OutI w base (.slice none 0 0) [] := World.ownsRow_nil w base 3 1
theorem OutI.reads {w : World} {base : Nat} {v : Value} {l : List Int} (h : OutI w base v l) : ∃ A cap, v = .slice A l.length cap ∧ l.length ≤ cap ∧ IntsA w w.heap.size A l := by
  obtain ⟨hl, h'⟩ := id h
  rcases h' with ⟨hv, h0⟩ | ⟨g, cap, cur, hv, hb, hh, hn, hm, hsz, htk⟩
  · exact ⟨none, 0, by rw [hv, h0], by omega, by omega, fun hn => by omega⟩
  · subst hv
    have hlt := (show w.ownsRow base 3 1 (.slice (some ⟨g, 0, none⟩) l.length cap) l.length (l.map (Value.int .i64)) from h).lt g rfl
    refine ⟨_, cap, rfl, hn, by omega, fun _ => ⟨g, 0, rfl, hlt.2, fun i hi => ?_⟩⟩
    have := World.ownsRow.cellAt h i (by omega)
    rw [Nat.zero_add, this]
    simp [hi]
theorem OutI.lenV {w : World} {base : Nat} {v : Value} {l : List Int} (h : OutI w base v l) : ∃ A cap, v = .slice A l.length cap ∧ l.length ≤ cap ∧ (∀ g o s, A = some ⟨g, o, s⟩ → base ≤ g ∧ o = 0 ∧ s = none) := by
  obtain ⟨hl, h'⟩ := id h
  rcases h' with ⟨hv, h0⟩ | ⟨g, cap, cur, hv, hb, hh, hn, hm, hsz, htk⟩
  · exact ⟨none, 0, by rw [hv, h0], by omega, fun g o s e => by cases e⟩
  · subst hv
    refine ⟨_, cap, rfl, hn, fun g' o s e => ?_⟩
    injection e with e
    injection e with e1 e2 e3
    exact ⟨by omega, e2.symm, e3.symm⟩
theorem newcell' {w : World} {cs : Array Value} {t g k : Nat} (h : g = w.heap.size) : (w.alloc (.cells cs t)).cell? ⟨g, k, none⟩ = cs[k]? := h ▸ newcell w cs t k
theorem OutI.ownF {w : World} {base n cap : Nat} {A : Option Addr} {l : List Int} (h : OutI w base (.slice A n cap) l) (hn : 0 < n) : ∃ g, A = some ⟨g, 0, none⟩ ∧ base ≤ g ∧ OwnF w g 3 l.length (fun j => .int .i64 (l.getD j 0)) := by
  obtain ⟨hl, h'⟩ := id h
  rcases h' with ⟨hv, h0⟩ | ⟨g, cap', cur, hv, hb, hh, r⟩
  · injection hv with h1 h2 h3
    omega
  · injection hv with h1 h2 h3
    subst h1
    subst h2
    refine ⟨g, rfl, hb, (OwnF.of_row h rfl).congr fun j hj => ?_⟩
    rw [List.getD_eq_getElem?_getD, List.getElem?_map, List.getD_eq_getElem?_getD, List.getElem?_eq_getElem hj]
    rfl
/-- the length in a slot -/
def lenV : Value → Nat | .slice _ n _ => n | _ => 0
theorem own_below {w w' : World} {base e size n B : Nat} {v : Value} {xs : List Value} (h : w.ownsRow base e size v n xs) (hb : Below B w w') (hB : ∀ k, v.ownBlock = some k → k < B) : w'.ownsRow base e size v n xs := by
  obtain ⟨h1, h2⟩ := h
  refine ⟨h1, ?_⟩
  rcases h2 with h2 | ⟨g, cap, cur, hv, hg, hh, r⟩
  · exact .inl h2
  · exact .inr ⟨g, cap, cur, hv, hg, by rw [hb.block g (hB g (by rw [hv]; rfl))]; exact hh, r⟩
theorem own_base {w : World} {base base' e size n : Nat} {v : Value} {xs : List Value} (h : w.ownsRow base e size v n xs) (hB : base' ≤ base) : w.ownsRow base' e size v n xs := by
  obtain ⟨h1, h2⟩ := h
  refine ⟨h1, ?_⟩
  rcases h2 with h2 | ⟨g, cap, cur, hv, hg, r⟩
  · exact .inl h2
  · exact .inr ⟨g, cap, cur, hv, by omega, r⟩
theorem own_block_lt {w : World} {base e size n : Nat} {v : Value} {xs : List Value} (h : w.ownsRow base e size v n xs) : ∀ k, v.ownBlock = some k → base ≤ k ∧ k < w.heap.size := h.lt
theorem own_set {w : World} {base e size n : Nat} {v : Value} {xs : List Value} (h : w.ownsRow base e size v n xs) {a : Addr} (ha : a.block < base) (u : Value) : (w.setCell a u).ownsRow base e size v n xs := ownsRow_setCell_below h ha u
end Go.Proofs.Ytegclodchhcbaaa

/- A region that draws its order, whose operations but the last ones only read: the reads in the order of the text, by the cheap step, then the tail. -/
namespace Go.Proofs.Ytegclodchhcbaaa
open Go.RowKit
theorem still_of_quiet {P : Program} {o : Oper} {a : Act} {W : World} {K K' : Act → Prop} (hK : ∀ a, K a → K' a) (h : o.quiet P a (fun w' => w' = W) K) : o.still P a W K' := by
  obtain ⟨v, h1, h2⟩ := h
  have h3 := h1 W rfl
  unfold Oper.quietAt at h3
  unfold Oper.still
  generalize (execOp a.eval o).run P W = r at *
  cases r with
  | ok n w' =>
    cases n <;> simp only [Oper.quietUpon] at h3 <;> simp only [Oper.stillUpon]
    case value u =>
      obtain ⟨e1, e2⟩ := h3
      exact ⟨e1, by rw [e2]; exact hK _ h2⟩
    case skip =>
      obtain ⟨e1, e2⟩ := h3
      exact ⟨e1, by rw [← e2]; exact hK _ h2⟩
    case enter f args =>
      obtain ⟨e1, hc⟩ := h3
      exact ⟨e1, v, hc, hK _ h2⟩
  | halt x w' => simp only [Oper.quietUpon] at h3
theorem wpStill_of_quiet {P : Program} {ops : Array Oper} {W : World} {Q : Act → Prop} : ∀ (l : List Oper) (a : Act), wpQuiet P ops (fun w' => w' = W) Q l a → wpStill P ops W Q l a
  | [], _, h => h
  | o :: r, a, h => by
    unfold wpQuiet at h
    unfold wpStill
    split at h
    · rename_i hw
      rw [if_pos hw]
      exact still_of_quiet (fun a' h' => wpStill_of_quiet r a' h') h
    · rename_i hw
      rw [if_neg hw]
      exact wpStill_of_quiet r _ h
theorem wp_region_quiet_tail {P : Program} {id : Nat} {Q : Exit → Act → World → Prop} {a : Act} {w : World} {l : List Oper} (n : Nat) (hm : P.follows .mixedOrders = true) (hB : Region.lexTailB .any l.toArray n = true)
    (h : wpQuiet P l.toArray (fun w' => w' = w.drew) (fun a' => wpList P l.toArray Q (l.drop n) a' w.drew) (l.take n) a) : (Code.region id l.toArray true).wp P Q a w :=
  wp_region_still_tail n hm hB (wpStill_of_quiet _ _ h)
end Go.Proofs.Ytegclodchhcbaaa

/- A region that draws its order and whose callees make memory of their own: one walk in the order of the text, in every world that is as it was below a bound. -/
namespace Go.Proofs.Ytegclodchhcbaaa
open Go.RowKit
/-- the worlds that are, below block B, as W was -/
def BW (B : Nat) (W : World) := { w' : World // Below B W w' }
instance nonempty_BW (B : Nat) (W : World) : Nonempty (BW B W) := ⟨⟨W, Below.refl B W⟩⟩
theorem wp_region_below {P : Program} {id : Nat} {Q : Exit → Act → World → Prop} {a : Act} {w : World} {l : List Oper} (B : Nat) (W : World) (hw : Below B W w) (hm : P.follows .mixedOrders = true) (hB : Region.lexB .any l.toArray = true)
    (h : wpQuiet P l.toArray (fun w' => ∃ s : BW B W, w' = s.1) (fun a' => ∀ s : BW B W, Q .normal a' s.1) l a) : (Code.region id l.toArray true).wp P Q a w := by
  refine wp_region_quiet (C := fun w' => ∃ s : BW B W, w' = s.1) hm hB ⟨⟨_, hw.drew⟩, rfl⟩ ?_
  have key : ∀ (ll : List Oper) (a : Act), wpQuiet P l.toArray (fun w' => ∃ s : BW B W, w' = s.1) (fun a' => ∀ s : BW B W, Q .normal a' s.1) ll a →
      wpQuiet P l.toArray (fun w' => ∃ s : BW B W, w' = s.1) (fun a' => ∀ w', (∃ s : BW B W, w' = s.1) → Q .normal a' w') ll a := by
    intro ll
    induction ll with
    | nil =>
      intro a h w' ⟨s, hs⟩
      rw [hs]
      exact h s
    | cons o r ih =>
      intro a h
      unfold wpQuiet at h ⊢
      split
      · rename_i hw'
        rw [if_pos hw'] at h
        exact Oper.quiet_mono (fun a' h' => ih a' h') h
      · rename_i hw'
        rw [if_neg hw'] at h
        exact ih _ h
  exact key _ _ h
/-- a callee's contract, met in each of these worlds -/
theorem quiet_below {P : Program} {f : FuncId} {args : Array Value} {B : Nat} {W : World} {s : BW B W} {v : Value} (hB : B ≤ W.heap.size)
    (h : Calls P f args s.1 fun e w' => e = .returned v ∧ Below s.1.heap.size s.1 w') : Calls P f args s.1 fun e w'' => e = .returned v ∧ ∃ s' : BW B W, w'' = s'.1 :=
  h.mono fun _ w' ⟨he, hb⟩ => ⟨he, ⟨w', s.2.trans (hb.mono (Nat.le_trans hB s.2.size))⟩, rfl⟩
theorem BW.cell {B : Nat} {W : World} {b o : Nat} {v : Value} (hb : b < B) (h : W.cell? ⟨b, o, none⟩ = some v) : ∀ s : BW B W, s.1.cell? ⟨b, o, none⟩ = some v := fun s => (bcell s.2 b o hb).trans h
end Go.Proofs.Ytegclodchhcbaaa

/- Operations as the walks of this seat meet them: make of ints, append of one int and of a list; slices.Clone of ints. -/
namespace Go.Proofs.Ytegclodchhcbaaa
open Go.RowKit

theorem info_int : (Try.prog.info? 3).map (fun i => (i.zero, i.size, i.bytes)) = some (some (.int .i64 0), 1, 8) := by kernel_rfl
theorem under_ints : Try.prog.underlying 28 = some (.slice 3) := by kernel_rfl

theorem made_get {z : Value} {n j : Nat} (hj : j < n) : (madeCells #[z] (n * 1)).toList.getD j undef = z := by
  rw [List.getD_eq_getElem?_getD, Array.getElem?_toList]
  simp [madeCells, hj, Nat.mod_one]

section
variable {ops : Array Oper} {rest : List Oper} {o : Oper} {a : Act} {Q : Exit → Act → World → Prop}
theorem mk_ints (w : World) (hg : o.guard = none) (l c : Operand) (hop : o.op = .makeSlice 28 l c) (n : Nat) (hl : a.eval l = .int .i64 (n : Int)) (hc : a.eval c = .int .i64 (n : Int)) (hn : n ≤ 1000000)
    (hK : ∀ w', OwnF w' w.heap.size 3 n (fun _ => .int .i64 0) → Below w.heap.size w w' → wpList Try.prog ops Q rest (a.put o.dst (.slice (some ⟨w.heap.size, 0, none⟩) n n)) w') : wpList Try.prog ops Q (o :: rest) a w := by
  obtain ⟨i0, hi, hz0, hz1, hz2⟩ := info_parts info_int
  refine wpList_make_full w hg l c 28 hop w.heap.size 3 i0 (.int .i64 0) 1 under_ints hi hz0 hz1 .i64 .i64 _ _ n hl hc rfl rfl (by rw [hz2]; omega) (by unfold maxLen; omega) (Nat.le_refl _) (fun w' h1 h2 => hK w' ?_ ?_)
  · exact (OwnF.of_row h1 rfl).congr fun j hj => made_get hj
  · exact (Below.refl _ _).grown h2 (Nat.le_refl _) (fun k hk => by cases hk)
theorem app_int (w : World) (hg : o.guard = none) (s x : Operand) (ho : o.op = .call { callee := .builtin .append, args := #[s, x], argTypes := #[28, 28] }) (base : Nat) (v : Value) (l : List Int)
    (hs : a.eval s = v) (hown : OutI w base v l) (wb : Nat) (y : Int) (hx : a.eval x = .slice (some ⟨wb, 0, none⟩) 1 1) (hy : w.cell? ⟨wb, 0, none⟩ = some (.int .i64 y)) (hlen : l.length ≤ 1000000) (hbase : base ≤ w.heap.size)
    (hK : ∀ v' w', OutI w' base v' (l ++ [y]) → w.grownBy w' v.ownBlock → wpList Try.prog ops Q rest (a.put o.dst v') w') : wpList Try.prog ops Q (o :: rest) a w := by
  obtain ⟨i0, hi, hz0, hz1, hz2⟩ := info_parts info_int
  refine wpList_append_own w hg s x 28 ho base 3 i0 (.int .i64 0) 1 8 under_ints hi hz0 hz1 hz2 rfl (by decide) v l.length _ hs hown ⟨wb, 0, none⟩ 1 1 [.int .i64 y] hx rfl ?_ ?_ (by unfold maxLen; omega) (by omega) hbase (fun v' w' h1 h2 _ => hK v' w' ?_ h2)
  · intro j u hj
    cases j with
    | zero => simp at hj; subst hj; simpa [Addr.add] using hy
    | succ j => simp at hj
  · intro u hu; simp at hu; subst hu; rfl
  · unfold OutI
    rw [List.length_append, List.map_append]
    exact h1
end
section
variable {ops : Array Oper} {rest : List Oper} {o : Oper} {a : Act} {Q : Exit → Act → World → Prop}
set_option maxRecDepth 100000 in
theorem app_ints (w : World) (hg : o.guard = none) (s x : Operand) (ho : o.op = .call { callee := .builtin .append, args := #[s, x], argTypes := #[28, 28] }) (base : Nat) (v : Value) (l : List Int)
    (hs : a.eval s = v) (hown : OutI w base v l) (A : Addr) (m c : Nat) (ys : List Int) (hx : a.eval x = .slice (some A) m c) (hm : ys.length = m) (hy : ∀ j, j < m → w.cell? (A.add j) = some (.int .i64 (ys.getD j 0))) (hlen : l.length + m ≤ 1000000) (hbase : base ≤ w.heap.size)
    (hK : ∀ v' w', OutI w' base v' (l ++ ys) → w.grownBy w' v.ownBlock → wpList Try.prog ops Q rest (a.put o.dst v') w') : wpList Try.prog ops Q (o :: rest) a w := by
  obtain ⟨i0, hi, hz0, hz1, hz2⟩ := info_parts info_int
  refine wpList_append_own w hg s x 28 ho base 3 i0 (.int .i64 0) 1 8 under_ints hi hz0 hz1 hz2 rfl (by decide) v l.length _ hs hown A m c (ys.map (Value.int .i64)) hx (by rw [List.length_map, hm, Nat.mul_one]) ?_ ?_ (by unfold maxLen; omega) (by omega) hbase (fun v' w' h1 h2 _ => hK v' w' ?_ h2)
  · intro j u hj
    have hjm : j < ys.length := by
      rcases Nat.lt_or_ge j ys.length with h1 | h1
      · exact h1
      · rw [List.getElem?_eq_none (by rw [List.length_map]; exact h1)] at hj; cases hj
    rw [hy j (by omega)]
    rw [List.getElem?_map, List.getElem?_eq_getElem hjm] at hj
    injection hj with hj
    rw [← hj, List.getD_eq_getElem?_getD, List.getElem?_eq_getElem hjm]
    rfl
  · intro u hu
    obtain ⟨p, _, rfl⟩ := List.mem_map.1 hu
    rfl
  · unfold OutI
    rw [List.length_append, List.map_append, hm]
    exact h1
end
theorem add_none0 (b off k : Nat) : (Addr.add ⟨b, off, none⟩ k) = ⟨b, off + k, none⟩ := by
  unfold Addr.add
  by_cases h : k = 0 <;> simp [h]
theorem own_empty (w : World) : OutI (w.alloc (.cells #[] 3)) w.heap.size (.slice (some ⟨w.heap.size, 0, none⟩) 0 0) [] :=
  ⟨rfl, .inr ⟨w.heap.size, 0, #[], rfl, Nat.le_refl _, heap_alloc_new w _, Nat.le_refl _, by unfold maxLen; omega, rfl, rfl⟩⟩
set_option maxRecDepth 100000 in
theorem clone_ints (O : Option Addr) (cap : Nat) (os : List Int) (w : World) (h : IntsA w w.heap.size O os) (hl : os.length ≤ 1000) :
    Calls Try.prog 90 #[.slice O os.length cap] w fun e w' => ∃ v, e = .returned v ∧ OutI w' w.heap.size v os ∧ Below w.heap.size w w' := by
  have hrun := fun (w : World) (a : Option Addr) (l c : Nat) => Lib.run_eql_slice_nil (P := Try.prog) w 28 3 a l c 0 0 under_ints
  rcases O with _ | A
  · obtain rfl : os = [] := by
      rcases os with _ | ⟨x, r⟩
      · rfl
      · obtain ⟨b, off, e, _⟩ := h.2 (by simp)
        cases e
    go_enter Try.func90, Try.ntmps90
    go_wp2_with fail
    go_ret
    exact ⟨_, rfl, OutI.nil _ _, Below.refl _ _⟩
  · have hy : ∀ j, j < os.length → (w.alloc (.cells #[] 3)).cell? (A.add j) = some (.int .i64 (os.getD j 0)) := fun j hj => by
      obtain ⟨b, off, e, hb, hc⟩ := h.2 (by omega)
      injection e with e
      subst e
      rw [add_none0, acell _ _ _ _ hb]
      exact hc j hj
    have hO := own_empty w
    go_enter Try.func90, Try.ntmps90
    go_wp2_with (at_builtin; refine app_ints _ rfl _ _ rfl w.heap.size _ [] rfl hO A os.length cap os rfl rfl hy (by simp; omega) (by simp) ?_; intro v6 w6 hO6 hg6)
    go_ret
    exact ⟨_, rfl, hO6, ((Below.refl _ _).alloc (Nat.le_refl _) _).grown hg6 (by simp) (fun k hk => (own_block_lt hO k hk).1)⟩
end Go.Proofs.Ytegclodchhcbaaa
