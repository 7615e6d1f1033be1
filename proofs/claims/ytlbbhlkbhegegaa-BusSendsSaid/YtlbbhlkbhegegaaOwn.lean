/- Arrays of the call's own, told by a function; rows that were appended to. -/
import Derived.Test.YtlbbhlkbhegegaaMem
namespace Go.Proofs.Ytlbbhlkbhegegaa
open Go.RowKit

/-- block g holds, in its first n cells (one an element), what f says -/
def OwnF (w : World) (g : Nat) (T : TypeId) (n : Nat) (f : Nat → Value) : Prop :=
  ∃ C : Array Value, w.heap[g]? = some (.cells C T (0, 0)) ∧ n ≤ C.size ∧ ∀ j, j < n → C[j]? = some (f j)
section
variable {w w' : World} {g T n : Nat} {f : Nat → Value}
theorem OwnF.lt (h : OwnF w g T n f) : g < w.heap.size := by
  obtain ⟨C, hC, _⟩ := h
  rcases Nat.lt_or_ge g w.heap.size with hlt | hge
  · exact hlt
  · rw [Array.getElem?_eq_none hge] at hC; cases hC
theorem OwnF.cell (h : OwnF w g T n f) {j : Nat} (hj : j < n) : w.cell? ⟨g, j, none⟩ = some (f j) := by
  obtain ⟨C, hC, _, hf⟩ := h
  rw [cell_of_row w g j C T (0, 0) hC, hf j hj]
theorem OwnF.frozen (h : OwnF w g T n f) (j : Nat) : w.frozen? ⟨g, j, none⟩ = false := by
  obtain ⟨C, hC, _⟩ := h
  simp [World.frozen?, hC]
theorem OwnF.below {B : Nat} (h : OwnF w g T n f) (hb : Below B w w') (hg : g < B) : OwnF w' g T n f := by
  obtain ⟨C, hC, r⟩ := h
  exact ⟨C, (hb.block g hg).trans hC, r⟩
theorem OwnF.grown {row : Option Nat} (h : OwnF w g T n f) (hb : w.grownBy w' row) (hg : some g ≠ row) : OwnF w' g T n f := by
  have hlt := h.lt
  obtain ⟨C, hC, r⟩ := h
  exact ⟨C, (hb.block g hlt hg).trans hC, r⟩
theorem OwnF.alloc (h : OwnF w g T n f) (o : Obj) : OwnF (w.alloc o) g T n f := by
  have hlt := h.lt
  obtain ⟨C, hC, r⟩ := h
  exact ⟨C, (Below.heap_alloc w o g hlt).trans hC, r⟩
theorem OwnF.drewN (h : OwnF w g T n f) (k : Nat) : OwnF (w.drewN k) g T n f := h
theorem OwnF.far (h : OwnF w g T n f) {p : Addr} (hp : g ≠ p.block) (u : Value) : OwnF (w.setCell p u) g T n f := by
  obtain ⟨C, hC, r⟩ := h
  exact ⟨C, (Below.heap_setCell w p u g hp).trans hC, r⟩
theorem OwnF.set (h : OwnF w g T n f) (j : Nat) (u : Value) : OwnF (w.setCell ⟨g, j, none⟩ u) g T n (fun i => if i = j then u else f i) := by
  obtain ⟨C, hC, hs, hf⟩ := h
  refine ⟨C.setIfInBounds j u, by simp only [World.setCell]; rw [Array.getElem?_modify, if_pos rfl, hC]; rfl, by simpa using hs, fun i hi => ?_⟩
  show _ = some (if i = j then u else f i)
  rw [Array.getElem?_setIfInBounds]
  by_cases hij : j = i
  · subst hij
    simp [show j < C.size by omega]
  · rw [if_neg hij, if_neg (show ¬ i = j from fun e => hij e.symm), hf i hi]
theorem OwnF.congr {f' : Nat → Value} (h : OwnF w g T n f) (he : ∀ j, j < n → f j = f' j) : OwnF w g T n f' := by
  obtain ⟨C, hC, hs, hf⟩ := h
  exact ⟨C, hC, hs, fun j hj => by rw [hf j hj, he j hj]⟩
theorem OwnF.ints {l : List Int} (h : OwnF w g T l.length (fun j => .int .i64 (l.getD j 0))) (hl : l.length ≤ maxLen) : IntsA w w.heap.size (some ⟨g, 0, none⟩) l :=
  ⟨hl, fun _ => ⟨g, 0, rfl, h.lt, fun i hi => by rw [Nat.zero_add]; exact h.cell hi⟩⟩
theorem OwnF.of_row {base size cap : Nat} {xs : List Value} (h : w.ownsRow base T size (.slice (some ⟨g, 0, none⟩) n cap) n xs) (hs : size = 1) : OwnF w g T n (fun j => xs.getD j undef) := by
  subst hs
  obtain ⟨hl, h⟩ := h
  rcases h with ⟨hv, _⟩ | ⟨g', cap', cur, hv, _, hh, hn, _, hsz, htk⟩
  · cases hv
  · injection hv with hA _ _
    injection hA with hA
    injection hA with hA
    subst hA
    refine ⟨cur, hh, by omega, fun j hj => ?_⟩
    have hj' : j < xs.length := by omega
    have h1 : xs[j]? = (cur.toList.take (n * 1))[j]? := by rw [htk]
    rw [List.getElem?_take, if_pos (by omega)] at h1
    show _ = some (xs.getD j undef)
    rw [List.getD_eq_getElem?_getD, List.getElem?_eq_getElem hj']
    rw [List.getElem?_eq_getElem hj'] at h1
    rw [← Array.getElem?_toList, ← h1]
    rfl
end
/-- a list of ints in memory of the call's own -/
def OutI (w : World) (base : Nat) (v : Value) (l : List Int) : Prop := w.ownsRow base 3 1 v l.length (l.map (Value.int .i64))
theorem OutI.nil (w : World) (base : Nat) : OutI w base (.slice none 0 0) [] := World.ownsRow_nil w base 3 1
theorem OutI.reads {w : World} {base : Nat} {v : Value} {l : List Int} (h : OutI w base v l) : ∃ A cap, v = .slice A l.length cap ∧ l.length ≤ cap ∧ IntsA w w.heap.size A l := by
  obtain ⟨hl, h'⟩ := id h
  rcases h' with ⟨hv, h0⟩ | ⟨g, cap, cur, hv, hb, hh, hn, hm, hsz, htk⟩
  · exact ⟨none, 0, by rw [hv, h0], by omega, by omega, fun hn => by omega⟩
  · subst hv
    have hlt := (show w.ownsRow base 3 1 (.slice (some ⟨g, 0, none⟩) l.length cap) l.length (l.map (Value.int .i64)) from h).lt g rfl
    refine ⟨_, cap, rfl, hn, by omega, fun _ => ⟨g, 0, rfl, hlt.2, fun i hi => ?_⟩⟩
    have := World.ownsRow.cellAt h i (by omega)
    rw [Nat.zero_add, this]
    simp [hi]
theorem OutI.lenV {w : World} {base : Nat} {v : Value} {l : List Int} (h : OutI w base v l) : ∃ A cap, v = .slice A l.length cap ∧ l.length ≤ cap ∧ (∀ g o s, A = some ⟨g, o, s⟩ → base ≤ g ∧ o = 0 ∧ s = none) := by
  obtain ⟨hl, h'⟩ := id h
  rcases h' with ⟨hv, h0⟩ | ⟨g, cap, cur, hv, hb, hh, hn, hm, hsz, htk⟩
  · exact ⟨none, 0, by rw [hv, h0], by omega, fun g o s e => by cases e⟩
  · subst hv
    refine ⟨_, cap, rfl, hn, fun g' o s e => ?_⟩
    injection e with e
    injection e with e1 e2 e3
    exact ⟨by omega, e2.symm, e3.symm⟩
theorem newcell' {w : World} {cs : Array Value} {t g k : Nat} (h : g = w.heap.size) : (w.alloc (.cells cs t)).cell? ⟨g, k, none⟩ = cs[k]? := h ▸ newcell w cs t k
theorem OutI.ownF {w : World} {base n cap : Nat} {A : Option Addr} {l : List Int} (h : OutI w base (.slice A n cap) l) (hn : 0 < n) : ∃ g, A = some ⟨g, 0, none⟩ ∧ base ≤ g ∧ OwnF w g 3 l.length (fun j => .int .i64 (l.getD j 0)) := by
  obtain ⟨hl, h'⟩ := id h
  rcases h' with ⟨hv, h0⟩ | ⟨g, cap', cur, hv, hb, hh, r⟩
  · injection hv with h1 h2 h3
    omega
  · injection hv with h1 h2 h3
    subst h1
    subst h2
    refine ⟨g, rfl, hb, (OwnF.of_row h rfl).congr fun j hj => ?_⟩
    rw [List.getD_eq_getElem?_getD, List.getElem?_map, List.getD_eq_getElem?_getD, List.getElem?_eq_getElem hj]
    rfl
/-- the length in a slot -/
def lenV : Value → Nat | .slice _ n _ => n | _ => 0
theorem own_below {w w' : World} {base e size n B : Nat} {v : Value} {xs : List Value} (h : w.ownsRow base e size v n xs) (hb : Below B w w') (hB : ∀ k, v.ownBlock = some k → k < B) : w'.ownsRow base e size v n xs := by
  obtain ⟨h1, h2⟩ := h
  refine ⟨h1, ?_⟩
  rcases h2 with h2 | ⟨g, cap, cur, hv, hg, hh, r⟩
  · exact .inl h2
  · exact .inr ⟨g, cap, cur, hv, hg, by rw [hb.block g (hB g (by rw [hv]; rfl))]; exact hh, r⟩
theorem own_base {w : World} {base base' e size n : Nat} {v : Value} {xs : List Value} (h : w.ownsRow base e size v n xs) (hB : base' ≤ base) : w.ownsRow base' e size v n xs := by
  obtain ⟨h1, h2⟩ := h
  refine ⟨h1, ?_⟩
  rcases h2 with h2 | ⟨g, cap, cur, hv, hg, r⟩
  · exact .inl h2
  · exact .inr ⟨g, cap, cur, hv, by omega, r⟩
theorem own_block_lt {w : World} {base e size n : Nat} {v : Value} {xs : List Value} (h : w.ownsRow base e size v n xs) : ∀ k, v.ownBlock = some k → base ≤ k ∧ k < w.heap.size := h.lt
theorem own_set {w : World} {base e size n : Nat} {v : Value} {xs : List Value} (h : w.ownsRow base e size v n xs) {a : Addr} (ha : a.block < base) (u : Value) : (w.setCell a u).ownsRow base e size v n xs := ownsRow_setCell_below h ha u
end Go.Proofs.Ytlbbhlkbhegegaa
