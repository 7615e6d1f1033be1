/- Memory of the net in motion: rows with labels, appends, packets, the post. -/
import Derived.Test.YtlbbhlkbhegegaaYa
import Derived.Test.YtlbbhlkbhegegaaXn
import Derived.Deep.AppendSrc
import Derived.Deep.AppendLies
/- Rows of structs, each with a label of its own: appended to, cut from the front; a map of such rows. -/
namespace Go.Proofs.Ytlbbhlkbhegegaa
open Go.RowKit

/-- a kind of elements: type, slices' type, cells -/
structure RK (α : Type) where
  T : TypeId
  S : TypeId
  k : Nat
  enc : α → Nat → Value
  z : Value
  by_ : Nat
  one : ∀ x j, (enc x j).oneCell' = true
  info : (Try.prog.info? T).map (fun i => (i.zero, i.size, i.bytes)) = some (some z, k, by_)
  under : Try.prog.underlying S = some (.slice T)
  zs : z.cells.size = k
  kpos : 0 < k
section
variable {α : Type} {R : RK α} {w w' : World} {base g n : Nat} {own own' : Nat → Int} {lab lab' : Int} {v : Value} {l : List α} {F : Nat → Value} {T : TypeId}
/-- the row of a label -/
def RowC (R : RK α) (w : World) (base : Nat) (own : Nat → Int) (lab : Int) (v : Value) (l : List α) : Prop :=
  (l = [] ∧ ∃ A, v = .slice A 0 0) ∨ ∃ g off cap F, v = .slice (some ⟨g, off, none⟩) l.length cap ∧ l.length ≤ cap ∧ base ≤ g ∧ own g = lab ∧ OwnF w g R.T (off + cap * R.k) F ∧ ∀ i x, l[i]? = some x → ∀ j, j < R.k → F (off + i * R.k + j) = R.enc x j
theorem RowC.nil : RowC R w base own lab (.slice none 0 0) [] := .inl ⟨rfl, _, rfl⟩
theorem RowC.moved (h : RowC R w base own lab v l) (hb : ∀ g, base ≤ g → g < w.heap.size → own g = lab → w'.heap[g]? = w.heap[g]? ∧ own' g = lab') : RowC R w' base own' lab' v l := by
  rcases h with h | ⟨g, off, cap, F, hv, hl, hg, ho, ⟨C, hC, r⟩, hF⟩
  · exact .inl h
  · have hlt : g < w.heap.size := OwnF.lt (f := F) (T := R.T) (n := off + cap * R.k) ⟨C, hC, r⟩
    obtain ⟨h1, h2⟩ := hb g hg hlt ho
    exact .inr ⟨g, off, cap, F, hv, hl, hg, h2, ⟨C, h1.trans hC, r⟩, hF⟩
theorem RowC.form (h : RowC R w base own lab v l) : ∃ A cap, v = .slice A l.length cap ∧ l.length ≤ cap := by
  rcases h with ⟨rfl, A, rfl⟩ | ⟨g, off, cap, F, hv, hl, _⟩
  · exact ⟨A, 0, rfl, Nat.le_refl _⟩
  · exact ⟨_, cap, hv, hl⟩
theorem RowC.at_ (h : RowC R w base own lab v l) {i : Nat} {x : α} (hx : l[i]? = some x) : ∃ g off cap, v = .slice (some ⟨g, off, none⟩) l.length cap ∧ l.length ≤ cap ∧ base ≤ g ∧ g < w.heap.size ∧ own g = lab ∧ (∀ j, w.frozen? ⟨g, j, none⟩ = false) ∧ ∀ j, j < R.k → w.cell? ⟨g, off + i * R.k + j, none⟩ = some (R.enc x j) := by
  rcases h with ⟨rfl, _⟩ | ⟨g, off, cap, F, hv, hl, hg, ho, hO, hF⟩
  · cases hx
  · refine ⟨g, off, cap, hv, hl, hg, hO.lt, ho, hO.frozen, fun j hj => ?_⟩
    have hi : i < l.length := by
      rcases Nat.lt_or_ge i l.length with h | h
      · exact h
      · rw [List.getElem?_eq_none h] at hx; cases hx
    have h1 : (i + 1) * R.k ≤ cap * R.k := Nat.mul_le_mul_right _ (by omega)
    rw [Nat.add_mul, Nat.one_mul] at h1
    rw [hO.cell (by omega), hF i x hx j hj]
theorem ownF_setCells : ∀ (vs : List Value) (o : Nat) (w : World) (F : Nat → Value), OwnF w g T n F → OwnF (w.setCells g o vs) g T n (fun j => if o ≤ j ∧ j < o + vs.length then vs.getD (j - o) undef else F j)
  | [], o, w, F, h => h.congr fun j _ => by rw [if_neg]; simp only [List.length_nil]; omega
  | v :: r, o, w, F, h => by
    refine (ownF_setCells r (o + 1) (w.setCell ⟨g, o, none⟩ v) _ (h.set o v)).congr fun j _ => ?_
    simp only [List.length_cons]
    by_cases h1 : o + 1 ≤ j ∧ j < o + 1 + r.length
    · rw [if_pos h1, if_pos (by omega), show j - o = (j - (o + 1)) + 1 by omega, List.getD_cons_succ]
    · rw [if_neg h1]
      by_cases h2 : j = o
      · rw [if_pos h2, if_pos (by omega), h2, Nat.sub_self]; rfl
      · rw [if_neg h2, if_neg (by omega)]
theorem grown_setCell (w : World) (g o : Nat) (v : Value) : w.grownBy (w.setCell ⟨g, o, none⟩ v) (some g) :=
  ⟨rfl, rfl, rfl, by simp, fun k _ hk => Below.heap_setCell w ⟨g, o, none⟩ v k (fun e => hk (by rw [e]))⟩
theorem grown_setCells (g : Nat) : ∀ (vs : List Value) (o : Nat) (w : World), w.grownBy (w.setCells g o vs) (some g)
  | [], _, w => World.grownBy.refl w _
  | v :: r, o, w => (grown_setCell w g o v).trans (grown_setCells g r (o + 1) _)
theorem cells_get {α : Type} (xs : List α) (k : Nat) (f : α → Nat → Value) : ∀ (i j : Nat) (x : α), xs[i]? = some x → j < k → (xs.flatMap fun x => (List.range k).map (f x))[i * k + j]? = some (f x j) := by
  induction xs with
  | nil => intro i j x h; cases h
  | cons y ys ih =>
    intro i j x h hj
    rw [List.flatMap_cons]
    cases i with
    | zero =>
      have : y = x := by simpa using h
      subst this
      rw [Nat.zero_mul, Nat.zero_add, List.getElem?_append_left (by simpa using hj), List.getElem?_map, List.getElem?_range hj]; rfl
    | succ i =>
      rw [List.getElem?_append_right (by simp only [List.length_map, List.length_range, Nat.add_mul, Nat.one_mul]; omega)]
      simp only [List.length_map, List.length_range]
      rw [show (i + 1) * k + j - k = i * k + j by rw [Nat.add_mul, Nat.one_mul]; omega]
      exact ih i j x (by simpa using h) hj
theorem cells_len {α : Type} (xs : List α) (k : Nat) (f : α → Nat → Value) : (xs.flatMap fun x => (List.range k).map (f x)).length = xs.length * k := by
  induction xs with
  | nil => simp
  | cons y ys ih => rw [List.flatMap_cons, List.length_append, ih, List.length_map, List.length_range, List.length_cons, Nat.add_mul, Nat.one_mul, Nat.add_comm]
/-- where a slice begins -/
def offV : Value → Nat | .slice (some a) _ _ => a.off | _ => 0
/-- an element appended -/
theorem run_app (ty : TypeId) (h : RowC R w base own lab v l) (nb c : Nat) (x : α) (hx : ∀ j, j < R.k → w.cell? ⟨nb, j, none⟩ = some (R.enc x j)) (hlen : l.length ≤ 1000000) (hby : R.by_ ≤ 1000) (hbase : base ≤ w.heap.size) :
    ∃ g off cap w' own', (Builtin.append_ #[R.S, R.S] ty #[v, .slice (some ⟨nb, 0, none⟩) 1 c]).run Try.prog w = .ok (.slice (some ⟨g, off, none⟩) (l.length + 1) cap) w' ∧ RowC R w' base own' lab (.slice (some ⟨g, off, none⟩) (l.length + 1) cap) (l ++ [x]) ∧ (∀ g, g < w.heap.size → own' g = own g) ∧ (off = 0 ∨ off = offV v) ∧
      ∃ row, w.grownBy w' row ∧ ∀ g, row = some g → base ≤ g ∧ own g = lab := by
  obtain ⟨i0, hi, hz0, hz1, hz2⟩ := info_parts R.info
  have hsrc : ∀ W : World, (∀ j, j < R.k → W.cell? ⟨nb, j, none⟩ = some (R.enc x j)) → Src Try.prog i0.size R.S (.slice (some ⟨nb, 0, none⟩) 1 c) 1 ((List.range R.k).map (R.enc x)) W := fun W hW =>
    Src.ofSlice W R.under ⟨nb, 0, none⟩ 1 c _ (by simp [hz1]) (fun j u hj => by
      rw [List.getElem?_map] at hj
      rcases Nat.lt_or_ge j R.k with h1 | h1
      · rw [List.getElem?_range h1] at hj
        rw [add_none', Nat.zero_add, hW j h1]
        exact hj
      · rw [List.getElem?_eq_none (by simpa using h1)] at hj
        cases hj) (fun u hu => by
      obtain ⟨j, _, rfl⟩ := List.mem_map.1 hu
      exact R.one x j)
  have hs := hsrc w hx
  have h63 : ((l.length + 1 : Nat) : Int) ≤ 9223372036854775807 := by omega
  have hb2 : (l.length + 1) * R.by_ ≤ 140737488355328 := by
    have := Nat.mul_le_mul (show l.length + 1 ≤ 1000001 by omega) hby
    omega
  -- a new row
  have grow : ∀ (A : Option Addr) (cap : Nat), v = .slice A l.length cap → cap < l.length + 1 →
      ((Builtin.firstCells i0.size l.length (.slice A l.length cap)).run Try.prog w.drew = .ok (l.flatMap fun x => (List.range R.k).map (R.enc x)).toArray w.drew) →
      ∃ g off cap w' own', (Builtin.append_ #[R.S, R.S] ty #[v, .slice (some ⟨nb, 0, none⟩) 1 c]).run Try.prog w = .ok (.slice (some ⟨g, off, none⟩) (l.length + 1) cap) w' ∧ RowC R w' base own' lab (.slice (some ⟨g, off, none⟩) (l.length + 1) cap) (l ++ [x]) ∧ (∀ g, g < w.heap.size → own' g = own g) ∧ (off = 0 ∨ off = offV v) ∧
      ∃ row, w.grownBy w' row ∧ ∀ g, row = some g → base ≤ g ∧ own g = lab := fun A cap hv hc hold => by
    subst hv
    have hr := run_append_grow_src w R.S R.S ty R.T i0 R.z R.under hi hz0 A l.length cap _ hold (.slice (some ⟨nb, 0, none⟩) 1 c) 1 _ hs hc h63 (growslice_fits hc (by rw [hz2]; exact hb2))
    have hge := grownCap_ge w (l.length + 1) cap R.T
    refine ⟨_, _, _, _, fun g => if g = w.heap.size then lab else own g, hr, ?_, fun g hg => if_neg (by omega), .inl rfl, none, ⟨rfl, rfl, rfl, by simp, fun k hk _ => heap_alloc_old w.drew _ hk⟩, fun g hg => by cases hg⟩
    have hcs : (l.flatMap fun x => (List.range R.k).map (R.enc x)) ++ (List.range R.k).map (R.enc x) = (l ++ [x]).flatMap fun x => (List.range R.k).map (R.enc x) := by simp [List.flatMap_append]
    refine .inr ⟨_, 0, grownCap w (l.length + 1) cap R.T, fun j => (((l ++ [x]).flatMap fun x => (List.range R.k).map (R.enc x)).toArray ++ Builtin.zeroCells R.z.cells (grownCap w (l.length + 1) cap R.T - (l.length + 1))).getD j undef, by rw [List.length_append]; rfl, by rw [List.length_append]; exact hge, hbase, if_pos rfl, ⟨_, heap_alloc_new w.drew _, ?_, fun j hj => ?_⟩, fun i y hy j hj => ?_⟩
    · rw [hcs, Array.size_append, List.size_toArray, cells_len, size_zeroCells, R.zs, Nat.zero_add, ← Nat.add_mul, List.length_append]
      simp only [List.length_cons, List.length_nil]
      rw [show l.length + (0 + 1) + (grownCap w (l.length + 1) cap R.T - (l.length + 1)) = grownCap w (l.length + 1) cap R.T by omega]
      exact Nat.le_refl _
    · rw [hcs, Array.getElem?_eq_getElem (by
        rw [Array.size_append, List.size_toArray, cells_len, size_zeroCells, R.zs, ← Nat.add_mul, List.length_append]
        simp only [List.length_cons, List.length_nil]
        rw [show l.length + (0 + 1) + (grownCap w (l.length + 1) cap R.T - (l.length + 1)) = grownCap w (l.length + 1) cap R.T by omega]
        omega)]
      show some _ = some (Array.getD _ j undef)
      rw [Array.getD_eq_getD_getElem?, Array.getElem?_eq_getElem]
      rfl
    · have h1 := cells_get (l ++ [x]) R.k R.enc i j y hy hj
      have h2 : i * R.k + j < ((l ++ [x]).flatMap fun x => (List.range R.k).map (R.enc x)).length := by
        rcases Nat.lt_or_ge (i * R.k + j) ((l ++ [x]).flatMap fun x => (List.range R.k).map (R.enc x)).length with h | h
        · exact h
        · rw [List.getElem?_eq_none h] at h1; cases h1
      show Array.getD _ (0 + i * R.k + j) undef = _
      rw [Nat.zero_add, Array.getD_eq_getD_getElem?, Array.getElem?_append_left (by simpa using h2), List.getElem?_toArray, h1]
      rfl
  rcases h with ⟨rfl, A, rfl⟩ | ⟨g, off, cap, F, rfl, hl, hg, ho, hO, hF⟩
  · refine grow A 0 rfl (by simp) ?_
    rcases A with _ | A
    · exact run_firstCells_none w.drew _ _ _ _
    · exact run_firstCells_some w.drew i0.size 0 A 0 0 [] (by simp) (fun j u hj => by cases hj)
  · have hcell : ∀ W : World, (∀ a, W.cell? a = w.cell? a) → (Builtin.firstCells i0.size l.length (.slice (some ⟨g, off, none⟩) l.length cap)).run Try.prog W = .ok (l.flatMap fun x => (List.range R.k).map (R.enc x)).toArray W := fun W hW => by
      refine run_firstCells_some W i0.size l.length ⟨g, off, none⟩ l.length cap _ (by rw [cells_len, hz1]) (fun j u hj => ?_)
      have hjl : j < l.length * R.k := by
        rw [← cells_len l R.k R.enc]
        rcases Nat.lt_or_ge j (l.flatMap fun x => (List.range R.k).map (R.enc x)).length with h | h
        · exact h
        · rw [List.getElem?_eq_none h] at hj; cases hj
      have hq : j / R.k < l.length := (Nat.div_lt_iff_lt_mul R.kpos).2 hjl
      have hm : j % R.k < R.k := Nat.mod_lt _ R.kpos
      have e : j / R.k * R.k + j % R.k = j := by rw [Nat.mul_comm]; exact Nat.div_add_mod j R.k
      have hy : l[j / R.k]? = some l[j / R.k] := List.getElem?_eq_getElem hq
      have h1 := cells_get l R.k R.enc (j / R.k) (j % R.k) _ hy hm
      rw [e, hj] at h1
      have h2 : (l.length) * R.k ≤ cap * R.k := Nat.mul_le_mul_right _ hl
      rw [add_none', hW, hO.cell (by omega), h1]
      have h3 := hF (j / R.k) _ hy (j % R.k) hm
      rw [Nat.add_assoc, e] at h3
      rw [h3]
    by_cases hroom : l.length + 1 ≤ cap
    · have h2 : (l.length + 1) * R.k ≤ cap * R.k := Nat.mul_le_mul_right _ hroom
      rw [Nat.add_mul, Nat.one_mul] at h2
      have hr := run_append_room_src w R.S R.S ty R.T i0 R.under hi g off l.length cap (.slice (some ⟨nb, 0, none⟩) 1 c) 1 _ hs hroom (fun j hj => by
        rw [hz1, hO.cell (by simp at hj; omega)]; rfl) (fun j _ => hO.frozen _)
      refine ⟨_, _, _, _, own, hr, .inr ⟨g, off, cap, _, by rw [List.length_append]; rfl, by rw [List.length_append]; exact hroom, hg, ho, ownF_setCells _ _ _ _ hO, fun i y hy j hj => ?_⟩, fun _ _ => rfl, .inr rfl, some g, grown_setCells g _ _ _, fun g' hg' => by injection hg' with hg'; subst hg'; exact ⟨hg, ho⟩⟩
      simp only [List.length_map, List.length_range, hz1]
      rcases Nat.lt_or_ge i l.length with h3 | h3
      · rw [List.getElem?_append_left h3] at hy
        have h4 : (i + 1) * R.k ≤ l.length * R.k := Nat.mul_le_mul_right _ h3
        rw [Nat.add_mul, Nat.one_mul] at h4
        rw [if_neg (by omega)]
        exact hF i y hy j hj
      · have h5 : i = l.length := by
          rcases Nat.lt_or_ge i (l ++ [x]).length with h | h
          · rw [List.length_append] at h; simp only [List.length_cons, List.length_nil] at h; omega
          · rw [List.getElem?_eq_none h] at hy; cases hy
        subst h5
        rw [get_mid l x []] at hy
        have hy := Option.some.inj hy
        subst hy
        rw [if_pos (by omega), show off + l.length * R.k + j - (off + l.length * R.k) = j by omega, List.getD_eq_getElem?_getD, List.getElem?_map, List.getElem?_range hj]
        rfl
    · exact grow _ cap rfl (by omega) (hcell w.drew fun _ => by simp)
end
end Go.Proofs.Ytlbbhlkbhegegaa

/- Families of rows; a map whose elements are slices; the laws of their operations. -/
namespace Go.Proofs.Ytlbbhlkbhegegaa
open Go.RowKit

section
variable {α : Type} {R : RK α} {w w' : World} {base g n : Nat} {own own' : Nat → Int} {lab lab' : Int} {v : Value} {l : Int → List α} {hv : Int → Value} {β : Type}
def updI (f : Int → β) (k : Int) (x : β) : Int → β := fun i => if i = k then x else f i
theorem updI_same (f : Int → β) (k : Int) (x : β) : updI f k x k = x := if_pos rfl
theorem updI_other (f : Int → β) {k i : Int} (x : β) (h : i ≠ k) : updI f k x i = f i := if_neg h
/-- a row for each label -/
def Fam (R : RK α) (w : World) (base : Nat) (own : Nat → Int) (hv : Int → Value) (l : Int → List α) : Prop := ∀ lab, RowC R w base own lab (hv lab) (l lab)
/-- what changes leaves the rows -/
theorem Fam.moved (h : Fam R w base own hv l) (hb : ∀ g, base ≤ g → g < w.heap.size → w'.heap[g]? = w.heap[g]?) : Fam R w' base own hv l := fun lab => (h lab).moved fun g h1 h2 h3 => ⟨hb g h1 h2, h3⟩
theorem Fam.below (h : Fam R w base own hv l) (hb : Below w.heap.size w w') : Fam R w' base own hv l := h.moved fun g _ h2 => hb.block g h2
theorem Fam.alloc (h : Fam R w base own hv l) (o : Obj) : Fam R (w.alloc o) base own hv l := h.moved fun g _ h2 => Below.heap_alloc w o g h2
theorem Fam.drew (h : Fam R w base own hv l) : Fam R w.drew base own hv l := h.moved fun _ _ _ => rfl
theorem Fam.drewN (h : Fam R w base own hv l) (k : Nat) : Fam R (w.drewN k) base own hv l := h.moved fun _ _ _ => rfl
theorem Fam.set (h : Fam R w base own hv l) {p : Addr} (hp : p.block < base) (u : Value) : Fam R (w.setCell p u) base own hv l := h.moved fun g h1 _ => Below.heap_setCell w p u g (by omega)
theorem Fam.grown {row : Option Nat} (h : Fam R w base own hv l) (hb : w.grownBy w' row) (hr : ∀ g, row = some g → g < base) : Fam R w' base own hv l := h.moved fun g h1 h2 => hb.block g h2 (fun e => by have := hr g e.symm; omega)
/-- a label gets another row -/
theorem Fam.put (h : Fam R w base own hv l) (lab : Int) {v : Value} {x : List α} (h2 : RowC R w' base own' lab v x) (ho : ∀ g, g < w.heap.size → own' g = own g) {row : Option Nat} (hg : w.grownBy w' row) (hr : ∀ g, row = some g → g < base ∨ own g = lab) :
    Fam R w' base own' (updI hv lab v) (updI l lab x) := fun lab' => by
  by_cases e : lab' = lab
  · subst e; rw [updI_same, updI_same]; exact h2
  · rw [updI_other _ _ e, updI_other _ _ e]
    refine (h lab').moved fun g h3 h4 h5 => ⟨hg.block g h4 fun e2 => ?_, by rw [ho g h4]; exact h5⟩
    rcases hr g e2.symm with h6 | h6
    · omega
    · exact e (h5.symm.trans h6)
/-- a label that is given up -/
theorem Fam.drop (h : Fam R w base own hv l) (lab : Int) : Fam R w base own (updI hv lab (.slice none 0 0)) (updI l lab []) :=
  h.put lab RowC.nil (fun _ _ => rfl) (World.grownBy.refl w none) fun g hg => by cases hg
/-- a block gets a label of its own -/
theorem Fam.mark (h : Fam R w base own hv l) (d : Nat) (lab : Int) (hd : ∀ k, own d = k → hv k = .slice none 0 0) : Fam R w base (fun g => if g = d then lab else own g) hv l := fun k => by
  have hk := h k
  by_cases e : own d = k
  · have h1 := hd k e
    rcases hk with ⟨h2, _⟩ | ⟨g, off, cap, F, h2, _⟩
    · rw [h1, h2]; exact RowC.nil
    · rw [h1] at h2; cases h2
  · refine hk.moved fun g _ _ h5 => ⟨rfl, ?_⟩
    by_cases e2 : g = d
    · exact absurd (e2 ▸ h5) e
    · show (if g = d then lab else own g) = k
      rw [if_neg e2]; exact h5
/-- an element appended to the row of a label -/
theorem Fam.app (h : Fam R w base own hv l) (lab : Int) (ty : TypeId) (nb c : Nat) (x : α) (hx : ∀ j, j < R.k → w.cell? ⟨nb, j, none⟩ = some (R.enc x j)) (hlen : (l lab).length ≤ 1000000) (hby : R.by_ ≤ 1000) (hbase : base ≤ w.heap.size) :
    ∃ g off cap w' own', (Builtin.append_ #[R.S, R.S] ty #[hv lab, .slice (some ⟨nb, 0, none⟩) 1 c]).run Try.prog w = .ok (.slice (some ⟨g, off, none⟩) ((l lab).length + 1) cap) w' ∧ Fam R w' base own' (updI hv lab (.slice (some ⟨g, off, none⟩) ((l lab).length + 1) cap)) (updI l lab (l lab ++ [x])) ∧ (∀ g, g < w.heap.size → own' g = own g) ∧ (off = 0 ∨ off = offV (hv lab)) ∧
      ∃ row, w.grownBy w' row ∧ ∀ g, row = some g → base ≤ g ∧ own g = lab := by
  obtain ⟨g, off, cap, w', own', h1, h2, h3, h6, row, h4, h5⟩ := run_app ty (h lab) nb c x hx hlen hby hbase
  exact ⟨g, off, cap, w', own', h1, h.put lab h2 h3 h4 fun g hg => .inr (h5 g hg).2, h3, h6, row, h4, h5⟩
end
/-! ### the two kinds -/
theorem under_pkts : Try.prog.underlying 115 = some (.slice 117) := by kernel_rfl
theorem under_bys : Try.prog.underlying 120 = some (.slice 122) := by kernel_rfl
def byAt (p : Int × MPkt) (j : Nat) : Value := if j = 0 then .int .i64 p.2.flow else if j = 1 then .int .i64 p.2.born else if j = 2 then .int .i64 p.2.hop else if j = 3 then .int .i64 p.1 else .int .i64 p.2.many
def PK : RK MPkt := ⟨117, 115, 4, pkAt, .agg #[.int .i64 0, .int .i64 0, .int .i64 0, .int .i64 0], 32, pkAt_one, by kernel_rfl, under_pkts, rfl, by decide⟩
def BK : RK (Int × MPkt) := ⟨122, 120, 5, byAt, .agg #[.int .i64 0, .int .i64 0, .int .i64 0, .int .i64 0, .int .i64 0], 40, fun p j => by unfold byAt; (repeat' split) <;> rfl, by kernel_rfl, under_bys, rfl, by decide⟩
section
variable {ops : Array Oper} {o : Oper} {a : Act} {rest : List Oper} {Q : Exit → Act → World → Prop} {K : Act → World → Prop} {E : Prop} {base : Nat} {own : Nat → Int} {hv : Int → Value}
/-- what an append leaves -/
def AppP {α : Type} (R : RK α) (w : World) (base : Nat) (own : Nat → Int) (hv : Int → Value) (l : Int → List α) (lab : Int) (x : α) (v' : Value) (w' : World) : Prop :=
  ∃ own', Fam R w' base own' (updI hv lab v') (updI l lab (l lab ++ [x])) ∧ (∀ g, g < w.heap.size → own' g = own g) ∧ (offV v' = 0 ∨ offV v' = offV (hv lab)) ∧ ∃ row, w.grownBy w' row ∧ ∀ g, row = some g → base ≤ g ∧ own g = lab
theorem AppP.old {α : Type} {R : RK α} {w w' : World} {l : Int → List α} {lab : Int} {x : α} {v' : Value} (h : AppP R w base own hv l lab x v' w') (hs : base ≤ w.heap.size) {b : Nat} (hb : b < base) : w'.heap[b]? = w.heap[b]? := by
  obtain ⟨_, _, _, _, row, hg, hr⟩ := h
  exact hg.block b (by omega) fun e => by have := (hr b e.symm).1; omega
theorem wp_app_pk {l : Int → List MPkt} (w : World) (s x : Operand) (ho : o.op = .call { callee := .builtin .append, args := #[s, x], argTypes := #[115, 115] }) (h : Fam PK w base own hv l) (lab : Int) (hs : a.eval s = hv lab) (nb c : Nat) (hx : a.eval x = .slice (some ⟨nb, 0, none⟩) 1 c)
    (p : MPkt) (hp : ∀ j, j < 4 → w.cell? ⟨nb, j, none⟩ = some (pkAt p j)) (hlen : (l lab).length ≤ 1000000) (hbase : base ≤ w.heap.size)
    (hK : ∀ g off cap w', AppP PK w base own hv l lab p (.slice (some ⟨g, off, none⟩) ((l lab).length + 1) cap) w' → K (a.put o.dst (.slice (some ⟨g, off, none⟩) ((l lab).length + 1) cap)) w') : o.wp Try.prog a w K Q := by
  obtain ⟨g, off, cap, w', own', hr, h2, h3, h4⟩ := h.app lab o.type nb c p hp hlen (by decide) hbase
  have hr : (Builtin.append_ #[115, 115] o.type #[hv lab, .slice (some ⟨nb, 0, none⟩) 1 c]).run Try.prog w = _ := hr
  unfold Oper.wp execOp
  simp only [ho, resolve, invoke, builtin, Sem.run_bind, Sem.run_pure, Result.andThen_ok, List.map_toArray, List.map_cons, List.map_nil, hs, hx, hr]
  exact hK g off cap w' ⟨own', h2, h3, h4⟩
theorem app_pk {l : Int → List MPkt} (w : World) (hg : o.guard = none) (s x : Operand) (ho : o.op = .call { callee := .builtin .append, args := #[s, x], argTypes := #[115, 115] }) (h : Fam PK w base own hv l) (lab : Int) (hs : a.eval s = hv lab) (nb c : Nat) (hx : a.eval x = .slice (some ⟨nb, 0, none⟩) 1 c)
    (p : MPkt) (hp : ∀ j, j < 4 → w.cell? ⟨nb, j, none⟩ = some (pkAt p j)) (hlen : (l lab).length ≤ 1000000) (hbase : base ≤ w.heap.size)
    (hK : ∀ g off cap w', AppP PK w base own hv l lab p (.slice (some ⟨g, off, none⟩) ((l lab).length + 1) cap) w' → wpList Try.prog ops Q rest (a.put o.dst (.slice (some ⟨g, off, none⟩) ((l lab).length + 1) cap)) w') : wpList Try.prog ops Q (o :: rest) a w :=
  wpList_plain hg fun _ hKK => wp_app_pk w s x ho h lab hs nb c hx p hp hlen hbase fun g off cap w' h => hKK _ _ (hK g off cap w' h)
theorem step_app_pk {l : Int → List MPkt} (w : World) (hg : o.guard = none) (s x : Operand) (ho : o.op = .call { callee := .builtin .append, args := #[s, x], argTypes := #[115, 115] }) (h : Fam PK w base own hv l) (lab : Int) (hs : a.eval s = hv lab) (nb c : Nat) (hx : a.eval x = .slice (some ⟨nb, 0, none⟩) 1 c)
    (p : MPkt) (hp : ∀ j, j < 4 → w.cell? ⟨nb, j, none⟩ = some (pkAt p j)) (hlen : (l lab).length ≤ 1000000) (hbase : base ≤ w.heap.size)
    (hK : ∀ g off cap w', AppP PK w base own hv l lab p (.slice (some ⟨g, off, none⟩) ((l lab).length + 1) cap) w' → K (a.put o.dst (.slice (some ⟨g, off, none⟩) ((l lab).length + 1) cap)) w') : if Region.wanted o (yielded ops a.tmps) = true then Oper.wp Try.prog o a w K Q else E := by
  rw [if_pos (by simp [Region.wanted, hg])]
  exact wp_app_pk w s x ho h lab hs nb c hx p hp hlen hbase hK
theorem wp_app_bk {l : Int → List (Int × MPkt)} (w : World) (s x : Operand) (ho : o.op = .call { callee := .builtin .append, args := #[s, x], argTypes := #[120, 120] }) (h : Fam BK w base own hv l) (lab : Int) (hs : a.eval s = hv lab) (nb c : Nat) (hx : a.eval x = .slice (some ⟨nb, 0, none⟩) 1 c)
    (p : Int × MPkt) (hp : ∀ j, j < 5 → w.cell? ⟨nb, j, none⟩ = some (byAt p j)) (hlen : (l lab).length ≤ 1000000) (hbase : base ≤ w.heap.size)
    (hK : ∀ g off cap w', AppP BK w base own hv l lab p (.slice (some ⟨g, off, none⟩) ((l lab).length + 1) cap) w' → K (a.put o.dst (.slice (some ⟨g, off, none⟩) ((l lab).length + 1) cap)) w') : o.wp Try.prog a w K Q := by
  obtain ⟨g, off, cap, w', own', hr, h2, h3, h4⟩ := h.app lab o.type nb c p hp hlen (by decide) hbase
  have hr : (Builtin.append_ #[120, 120] o.type #[hv lab, .slice (some ⟨nb, 0, none⟩) 1 c]).run Try.prog w = _ := hr
  unfold Oper.wp execOp
  simp only [ho, resolve, invoke, builtin, Sem.run_bind, Sem.run_pure, Result.andThen_ok, List.map_toArray, List.map_cons, List.map_nil, hs, hx, hr]
  exact hK g off cap w' ⟨own', h2, h3, h4⟩
theorem app_bk {l : Int → List (Int × MPkt)} (w : World) (hg : o.guard = none) (s x : Operand) (ho : o.op = .call { callee := .builtin .append, args := #[s, x], argTypes := #[120, 120] }) (h : Fam BK w base own hv l) (lab : Int) (hs : a.eval s = hv lab) (nb c : Nat) (hx : a.eval x = .slice (some ⟨nb, 0, none⟩) 1 c)
    (p : Int × MPkt) (hp : ∀ j, j < 5 → w.cell? ⟨nb, j, none⟩ = some (byAt p j)) (hlen : (l lab).length ≤ 1000000) (hbase : base ≤ w.heap.size)
    (hK : ∀ g off cap w', AppP BK w base own hv l lab p (.slice (some ⟨g, off, none⟩) ((l lab).length + 1) cap) w' → wpList Try.prog ops Q rest (a.put o.dst (.slice (some ⟨g, off, none⟩) ((l lab).length + 1) cap)) w') : wpList Try.prog ops Q (o :: rest) a w :=
  wpList_plain hg fun _ hKK => wp_app_bk w s x ho h lab hs nb c hx p hp hlen hbase fun g off cap w' h => hKK _ _ (hK g off cap w' h)
theorem step_app_bk {l : Int → List (Int × MPkt)} (w : World) (hg : o.guard = none) (s x : Operand) (ho : o.op = .call { callee := .builtin .append, args := #[s, x], argTypes := #[120, 120] }) (h : Fam BK w base own hv l) (lab : Int) (hs : a.eval s = hv lab) (nb c : Nat) (hx : a.eval x = .slice (some ⟨nb, 0, none⟩) 1 c)
    (p : Int × MPkt) (hp : ∀ j, j < 5 → w.cell? ⟨nb, j, none⟩ = some (byAt p j)) (hlen : (l lab).length ≤ 1000000) (hbase : base ≤ w.heap.size)
    (hK : ∀ g off cap w', AppP BK w base own hv l lab p (.slice (some ⟨g, off, none⟩) ((l lab).length + 1) cap) w' → K (a.put o.dst (.slice (some ⟨g, off, none⟩) ((l lab).length + 1) cap)) w') : if Region.wanted o (yielded ops a.tmps) = true then Oper.wp Try.prog o a w K Q else E := by
  rw [if_pos (by simp [Region.wanted, hg])]
  exact wp_app_bk w s x ho h lab hs nb c hx p hp hlen hbase hK
end
/-! ### a map whose elements are slices -/
def encH (v : Value) : Option (DataW Value × List MemPlace) := some (.held v, [])
def keyZ (t : Int) : Lit := .int .i64 t
def nilS : Value := .slice none 0 0
/-- the map in block mb: slices by ticks -/
def MapH (w : World) (mb n : Nat) (hv : Int → Value) : Prop := ∃ D : DataW Value, w.ownsMap Try.prog 3 encH mb n D ∧ ∀ t : Int, 0 ≤ t → t ≤ 100000 → D.atKey (keyZ t) (.held nilS) = .held (hv t)
theorem u111 : Try.prog.underlying 111 = some (.map 3 115) := by kernel_rfl
theorem z115 (w : World) : (zeroValue 115).run Try.prog w = .ok nilS w := by kernel_rfl
theorem keyZ_wf {t : Int} (h0 : 0 ≤ t) (h : t ≤ 100000) : (Lit.int .i64 t).wf = true := by
  simp [Lit.wf, IntKind.min, IntKind.max, IntKind.bits, IntKind.signed]
  omega
theorem keyOfZ {t : Int} (h0 : 0 ≤ t) (h : t ≤ 100000) : keyOf Try.prog 3 (.int .i64 t) = some (keyZ t) := Maps.keyOf_int_mk u3 (keyZ_wf h0 h)
theorem keyZ_inj {a b : Int} (h : a ≠ b) : keyZ a ≠ keyZ b := fun e => by
  unfold keyZ at e
  injection e with _ e
  exact h e
section
variable {w w' : World} {mb n : Nat} {hv : Int → Value}
theorem MapH.made (w : World) : MapH (w.alloc (.map #[] 0)) w.heap.size 0 (fun _ => nilS) := ⟨.map [], World.ownsMap_made w Try.prog 3 encH, fun _ _ _ => rfl⟩
theorem MapH.lt (h : MapH w mb n hv) : mb < w.heap.size := by
  obtain ⟨D, h1, _⟩ := h
  exact h1.lt
theorem MapH.moved (h : MapH w mb n hv) (hb : w'.heap[mb]? = w.heap[mb]?) : MapH w' mb n hv := by
  obtain ⟨D, ⟨es, clock, e1, e2⟩, h2⟩ := h
  exact ⟨D, ⟨es, clock, hb.trans e1, e2⟩, h2⟩
theorem MapH.mono (h : MapH w mb n hv) {n' : Nat} (hn : n ≤ n') : MapH w mb n' hv := by
  obtain ⟨D, h1, h2⟩ := h
  exact ⟨D, h1.mono hn, h2⟩
theorem MapH.congr {hv' : Int → Value} (h : MapH w mb n hv) (he : ∀ t, 0 ≤ t → t ≤ 100000 → hv' t = hv t) : MapH w mb n hv' := by
  obtain ⟨D, h1, h2⟩ := h
  exact ⟨D, h1, fun t h3 h4 => by rw [he t h3 h4]; exact h2 t h3 h4⟩
theorem MapH.look (h : MapH w mb n hv) {t : Int} (h0 : 0 ≤ t) (h1 : t ≤ 100000) : (Instr.lookup 111 (.map (some mb)) (.int .i64 t) false).run Try.prog w = .ok (hv t) w := by
  obtain ⟨D, h2, h3⟩ := h
  obtain ⟨v, ps, hr, he⟩ := h2.lookup keyed3 u111 (z115 w) (zd := .held nilS) (zp := []) rfl (keyOfZ h0 h1)
  rw [h3 t h0 h1] at he
  have he := (Prod.mk.inj (Option.some.inj he)).1
  have he := DataW.held.inj he
  rw [hr, he]
variable {ops : Array Oper} {o : Oper} {a : Act} {rest : List Oper} {Q : Exit → Act → World → Prop} {K : Act → World → Prop} {E : Prop}
theorem MapH.store (h : MapH w mb n hv) (hn : n ≤ 1000000000) {t : Int} (h0 : 0 ≤ t) (h1 : t ≤ 100000) (v : Value) : ∃ w', (Instr.mapUpdate 111 (.map (some mb)) (.int .i64 t) v).run Try.prog w = .ok () w' ∧ MapH w' mb (n + 1) (updI hv t v) ∧ w.grownBy w' (some mb) := by
  obtain ⟨D, h2, h3⟩ := h
  obtain ⟨w', hr, h4, h5⟩ := h2.update keyed3 u111 (by unfold maxLen; omega) (keyOfZ h0 h1) (val := v) (d := .held v) (ps := []) rfl
  refine ⟨w', hr, ⟨_, h4, fun i hi0 hi1 => ?_⟩, h5⟩
  by_cases e : i = t
  · subst e
    rw [updI_same, Maps.atKey_put_same h2.isMap (by trivial)]
  · rw [updI_other _ _ e, Maps.atKey_put_other (keyZ_inj e)]
    exact h3 i hi0 hi1
theorem wp_put_pk (w : World) (m x v : Operand) (ho : o.op = Op.mapUpdate 111 m x v) (mb n : Nat) (hv : Int → Value) (hm : a.eval m = .map (some mb)) (h : MapH w mb n hv) (hn : n ≤ 1000000000) (t : Int) (h0 : 0 ≤ t) (h1 : t ≤ 100000) (hx : a.eval x = .int .i64 t) (V : Value) (hV : a.eval v = V)
    (hK : ∀ w', MapH w' mb (n + 1) (updI hv t V) → w.grownBy w' (some mb) → K (a.put o.dst undef) w') : o.wp Try.prog a w K Q := by
  obtain ⟨w', hr, h2, h3⟩ := h.store hn h0 h1 V
  unfold Oper.wp
  simp [execOp, ho, hm, hx, hV, hr, Result.andThen]
  exact hK w' h2 h3
theorem put_pk (w : World) (hg : o.guard = none) (m x v : Operand) (ho : o.op = Op.mapUpdate 111 m x v) (mb n : Nat) (hv : Int → Value) (hm : a.eval m = .map (some mb)) (h : MapH w mb n hv) (hn : n ≤ 1000000000) (t : Int) (h0 : 0 ≤ t) (h1 : t ≤ 100000) (hx : a.eval x = .int .i64 t) (V : Value) (hV : a.eval v = V)
    (hK : ∀ w', MapH w' mb (n + 1) (updI hv t V) → w.grownBy w' (some mb) → wpList Try.prog ops Q rest (a.put o.dst undef) w') : wpList Try.prog ops Q (o :: rest) a w :=
  wpList_plain hg fun _ hKK => wp_put_pk w m x v ho mb n hv hm h hn t h0 h1 hx V hV fun w' h2 h3 => hKK _ _ (hK w' h2 h3)
theorem step_put_pk (w : World) (hg : o.guard = none) (m x v : Operand) (ho : o.op = Op.mapUpdate 111 m x v) (mb n : Nat) (hv : Int → Value) (hm : a.eval m = .map (some mb)) (h : MapH w mb n hv) (hn : n ≤ 1000000000) (t : Int) (h0 : 0 ≤ t) (h1 : t ≤ 100000) (hx : a.eval x = .int .i64 t) (V : Value) (hV : a.eval v = V)
    (hK : ∀ w', MapH w' mb (n + 1) (updI hv t V) → w.grownBy w' (some mb) → K (a.put o.dst undef) w') : if Region.wanted o (yielded ops a.tmps) = true then Oper.wp Try.prog o a w K Q else E := by
  rw [if_pos (by simp [Region.wanted, hg])]
  exact wp_put_pk w m x v ho mb n hv hm h hn t h0 h1 hx V hV hK
theorem del_pk (w : World) (hg : o.guard = none) (m x : Operand) (ho : o.op = Op.call { callee := Callee.builtin Builtin.delete, args := #[m, x], argTypes := #[111, 3] }) (mb n : Nat) (hv : Int → Value) (hm : a.eval m = .map (some mb)) (h : MapH w mb n hv) (t : Int) (h0 : 0 ≤ t) (h1 : t ≤ 100000) (hx : a.eval x = .int .i64 t)
    (hK : ∀ w', MapH w' mb n (updI hv t nilS) → w.grownBy w' (some mb) → wpList Try.prog ops Q rest (a.put o.dst (.tuple #[])) w') : wpList Try.prog ops Q (o :: rest) a w := by
  obtain ⟨D, h2, h3⟩ := h
  refine wpList_delete_own w hg m x 111 3 ho 115 keyed3 u111 encH mb n D hm h2 _ (keyZ t) hx (keyOfZ h0 h1) (fun w' h4 h5 => hK w' ⟨_, h4, fun i hi0 hi1 => ?_⟩ h5.grown)
  by_cases e : i = t
  · subst e
    rw [updI_same, Maps.atKey_del_same]
  · rw [updI_other _ _ e, Maps.atKey_del_other (keyZ_inj e)]
    exact h3 i hi0 hi1
end
end Go.Proofs.Ytlbbhlkbhegegaa

/- A net in motion, in memory. -/
namespace Go.Proofs.Ytlbbhlkbhegegaa
open Go.RowKit

def labG (g : Nat) : Int := -(g : Int) - 1
theorem labG_inj {g k : Nat} (h : k ≠ g) : labG k ≠ labG g := fun e => by unfold labG at e; omega
theorem labG_neg {g : Nat} {t : Int} (h : 0 ≤ t) : t ≠ labG g := fun e => by unfold labG at e; omega
def curL : Int := -1000000
def addW (s : Mot) (u : Int) (x : MPkt) : Mot := { s with way := s.way ++ [(u, x)] }
def setL (s : Mot) (g : Nat) (r : List MPkt) : Mot := { s with lines := fun h => if h = g then r else s.lines h }
def setLeft (s : Mot) (x : Int) : Mot := { s with left := x }
def setOut (s : Mot) (i : Nat) (y : Int) : Mot := { s with out := fun k => if k = i then y else s.out k }
theorem arr_end {n : MNet} {t : Int} {s : Mot} {x : MPkt} (h : x.hop = ((pathOf n x).length : Int)) : arr n t s x = setOut (setLeft s (s.left - x.many)) x.flow.toNat (maxZ (s.out x.flow.toNat) (t - x.born)) := by
  unfold arr setOut setLeft
  rw [if_pos h]
  congr 1
  funext i
  by_cases e : i = x.flow.toNat
  · rw [if_pos e, if_pos e, e]
  · rw [if_neg e, if_neg e]
theorem arr_line {n : MNet} {t : Int} {s : Mot} {x : MPkt} (h : x.hop ≠ ((pathOf n x).length : Int)) : arr n t s x = setL s (hopG n x) (s.lines (hopG n x) ++ [x]) := by
  unfold arr setL
  rw [if_neg h]
  congr 1
  funext g
  by_cases e : g = hopG n x
  · rw [if_pos e, if_pos e, e]
  · rw [if_neg e, if_neg e]
theorem atW_app (t : Int) (a b : List (Int × MPkt)) : atW t (a ++ b) = atW t a ++ atW t b := by unfold atW; rw [List.filter_append, List.map_append]
theorem atW_one (t u : Int) (x : MPkt) : atW t [(u, x)] = if u = t then [x] else [] := by
  unfold atW
  by_cases h : u = t
  · rw [if_pos h, List.filter_cons_of_pos (by simpa using h)]; rfl
  · rw [if_neg h, List.filter_cons_of_neg (by simpa using h)]; rfl
theorem atW_gone (t u : Int) (w : List (Int × MPkt)) : atW u (w.filter fun p => p.1 != t) = if u = t then [] else atW u w := by
  unfold atW
  rw [List.filter_filter]
  by_cases h : u = t
  · subst h
    rw [if_pos rfl]
    have : (w.filter fun p => p.1 == u && p.1 != u) = [] := List.filter_eq_nil_iff.2 fun p _ => by cases hh : p.1 == u <;> simp [hh, bne]
    rw [this]; rfl
  · rw [if_neg h]
    congr 1
    apply List.filter_congr
    intro p _
    by_cases e : p.1 = u
    · simp [e, h]
    · simp [e]
/-- where the post lies, and its net -/
structure PPar where
  B : Nat
  pb : Nat
  mb : Nat
  lb : Nat
  ob : Nat
  base : Nat
  A1 : Option Addr
  c1 : Nat
  A2 : Option Addr
  c2 : Nat
  N : MNet
/-- the blocks lie apart -/
structure POrd (p : PPar) : Prop where
  b1 : p.B ≤ p.pb
  b2 : p.B ≤ p.mb
  b3 : p.B ≤ p.lb
  b4 : p.B ≤ p.ob
  l1 : p.pb < p.base
  l2 : p.mb < p.base
  l3 : p.lb < p.base
  l4 : p.ob < p.base
  n1 : p.pb ≠ p.mb
  n2 : p.pb ≠ p.lb
  n3 : p.pb ≠ p.ob
  n4 : p.mb ≠ p.lb
  n5 : p.mb ≠ p.ob
  n6 : p.lb ≠ p.ob
/-- the post's box -/
def boxC (p : PPar) (left : Int) : Array Value := #[.slice p.A1 p.N.gates.length p.c1, .slice p.A2 p.N.flows.length p.c2, .map (some p.mb), .slice (some ⟨p.lb, 0, none⟩) p.N.gates.length p.N.gates.length, .int .i64 left, .slice (some ⟨p.ob, 0, none⟩) p.N.flows.length p.N.flows.length]
structure PostA (p : PPar) (w : World) (nm : Nat) (own : Nat → Int) (hv : Int → Value) (l : Int → List MPkt) (s : Mot) : Prop where
  box : w.heap[p.pb]? = some (.cells (boxC p s.left) 114 (0, 0))
  map : MapH w p.mb nm hv
  lins : OwnF w p.lb 115 p.N.gates.length (fun g => hv (labG g))
  outs : OwnF w p.ob 3 p.N.flows.length (fun i => .int .i64 (s.out i))
  fam : Fam PK w p.base own hv l
  z : ∀ t, 0 ≤ t → offV (hv t) = 0
  net : NetA w p.B p.A1 p.A2 p.N
  ord : POrd p
  size : p.base ≤ w.heap.size
  lk : ∀ g, l (labG g) = s.lines g
  wk : ∀ t, 0 ≤ t → StQ (atW t s.way) (l t)
section
variable {p : PPar} {w w' : World} {nm : Nat} {own own' : Nat → Int} {hv : Int → Value} {l : Int → List MPkt} {s : Mot}
theorem PostA.cells (h : PostA p w nm own hv l s) : w.cell? ⟨p.pb, 0, none⟩ = some (.slice p.A1 p.N.gates.length p.c1) ∧ w.cell? ⟨p.pb, 1, none⟩ = some (.slice p.A2 p.N.flows.length p.c2) ∧ w.cell? ⟨p.pb, 2, none⟩ = some (.map (some p.mb)) ∧ w.cell? ⟨p.pb, 3, none⟩ = some (.slice (some ⟨p.lb, 0, none⟩) p.N.gates.length p.N.gates.length) ∧ w.cell? ⟨p.pb, 4, none⟩ = some (.int .i64 s.left) ∧ w.cell? ⟨p.pb, 5, none⟩ = some (.slice (some ⟨p.ob, 0, none⟩) p.N.flows.length p.N.flows.length) ∧ w.frozen? ⟨p.pb, 4, none⟩ = false :=
  ⟨cell_of_row w _ 0 _ _ _ h.box, cell_of_row w _ 1 _ _ _ h.box, cell_of_row w _ 2 _ _ _ h.box, cell_of_row w _ 3 _ _ _ h.box, cell_of_row w _ 4 _ _ _ h.box, cell_of_row w _ 5 _ _ _ h.box, by simp [World.frozen?, h.box]⟩
theorem PostA.below (h : PostA p w nm own hv l s) (hb : Below w.heap.size w w') : PostA p w' nm own hv l s := by
  have hs := h.size
  have ho := h.ord
  have l1 := ho.l1; have l2 := ho.l2; have l3 := ho.l3; have l4 := ho.l4; have b1 := ho.b1
  exact ⟨(hb.block _ (by omega)).trans h.box, h.map.moved (hb.block _ (by omega)), h.lins.below hb (by omega), h.outs.below hb (by omega), h.fam.below hb, h.z, h.net.below (hb.mono (B' := p.B) (by omega)) (Nat.le_refl _), ho, Nat.le_trans hs hb.size, h.lk, h.wk⟩
theorem PostA.alloc (h : PostA p w nm own hv l s) (o : Obj) : PostA p (w.alloc o) nm own hv l s := h.below ((Below.refl _ _).alloc (Nat.le_refl _) o)
theorem PostA.drew (h : PostA p w nm own hv l s) : PostA p w.drew nm own hv l s := h.below (Below.refl _ _).drew
theorem PostA.drewN (h : PostA p w nm own hv l s) (k : Nat) : PostA p (w.drewN k) nm own hv l s := h.below ⟨rfl, rfl, rfl, Nat.le_refl _, fun _ _ => rfl⟩
/-- the bytes -/
theorem PostA.setLeft (h : PostA p w nm own hv l s) (x : Int) : PostA p (w.setCell ⟨p.pb, 4, none⟩ (.int .i64 x)) nm own hv l (setLeft s x) := by
  have ho := h.ord
  have b1 := ho.b1
  refine ⟨?_, h.map.moved (Below.heap_setCell w ⟨p.pb, 4, none⟩ _ _ ho.n1.symm), h.lins.far ho.n2.symm _, h.outs.far ho.n3.symm _, h.fam.set ho.l1 _, h.z, h.net.below ((Below.refl p.B w).setCell (p := ⟨p.pb, 4, none⟩) b1 _) (Nat.le_refl _), ho, by simpa using h.size, h.lk, h.wk⟩
  simp only [World.setCell]
  rw [Array.getElem?_modify, if_pos rfl, h.box]
  rfl
/-- a longest delay -/
theorem PostA.setOut (h : PostA p w nm own hv l s) (i : Nat) (y : Int) : PostA p (w.setCell ⟨p.ob, i, none⟩ (.int .i64 y)) nm own hv l (setOut s i y) := by
  have ho := h.ord
  have b4 := ho.b4
  refine ⟨(Below.heap_setCell w ⟨p.ob, i, none⟩ _ _ ho.n3).trans h.box, h.map.moved (Below.heap_setCell w ⟨p.ob, i, none⟩ _ _ ho.n5), h.lins.far ho.n6 _, (h.outs.set i _).congr fun j _ => ?_, h.fam.set ho.l4 _, h.z, h.net.below ((Below.refl p.B w).setCell (p := ⟨p.ob, i, none⟩) b4 _) (Nat.le_refl _), ho, by simpa using h.size, h.lk, h.wk⟩
  show _ = Value.int .i64 (if j = i then y else s.out j)
  split <;> rfl
/-- a line's row turned: new header stored -/
theorem PostA.line (h : PostA p w nm own hv l s) {g : Nat} {v' : Value} {r : List MPkt} {row : Option Nat} (hf : Fam PK w' p.base own' (updI hv (labG g) v') (updI l (labG g) r)) (hg : w.grownBy w' row) (hr : ∀ k, row = some k → p.base ≤ k) :
    PostA p (w'.setCell ⟨p.lb, g, none⟩ v') nm own' (updI hv (labG g) v') (updI l (labG g) r) (setL s g r) := by
  have ho := h.ord
  have hs := h.size
  have l1 := ho.l1; have l2 := ho.l2; have l3 := ho.l3; have l4 := ho.l4; have b1 := ho.b1; have b3 := ho.b3
  have hne : ∀ k, k < p.base → some k ≠ row := fun k hk e => by have := hr k e.symm; omega
  have hbl : Below p.B w w' := ⟨hg.os, hg.tape, hg.output, hg.size, fun k hk => hg.block k (by omega) (hne k (by omega))⟩
  refine ⟨?_, ?_, ?_, ?_, hf.set ho.l3 _, fun t ht => by rw [updI_other _ _ (labG_neg ht)]; exact h.z t ht, h.net.below (hbl.setCell (p := ⟨p.lb, g, none⟩) b3 _) (Nat.le_refl _), ho, by have := hg.size; simp; omega, fun k => ?_, fun t ht => by rw [updI_other _ _ (labG_neg ht)]; exact h.wk t ht⟩
  · exact (Below.heap_setCell w' ⟨p.lb, g, none⟩ _ _ ho.n2).trans ((hg.block _ (by omega) (hne _ l1)).trans h.box)
  · exact (h.map.congr fun t ht _ => updI_other _ _ (labG_neg ht)).moved ((Below.heap_setCell w' ⟨p.lb, g, none⟩ _ _ ho.n4).trans (hg.block _ (by omega) (hne _ l2)))
  · refine ((h.lins.grown hg (hne _ l3)).set g v').congr fun j _ => ?_
    by_cases e : j = g
    · subst e; rw [if_pos rfl, updI_same]
    · rw [if_neg e, updI_other _ _ (labG_inj e)]
  · exact (h.outs.grown hg (hne _ l4)).far (p := ⟨p.lb, g, none⟩) ho.n6.symm _
  · show updI l (labG g) r (labG k) = if k = g then r else s.lines k
    by_cases e : k = g
    · subst e; rw [if_pos rfl, updI_same]
    · rw [if_neg e, updI_other _ _ (labG_inj e)]; exact h.lk k
/-- a packet more on its way -/
theorem PostA.way (h : PostA p w nm own hv l s) {u : Int} (hu : 0 ≤ u) {v' : Value} {x : MPkt} {row : Option Nat} {w'' : World} (hf : Fam PK w' p.base own' (updI hv u v') (updI l u (l u ++ [x]))) (hz : offV v' = 0) (hg : w.grownBy w' row) (hr : ∀ k, row = some k → p.base ≤ k)
    {nm' : Nat} (hm : MapH w'' p.mb nm' (updI hv u v')) (hg2 : w'.grownBy w'' (some p.mb)) : PostA p w'' nm' own' (updI hv u v') (updI l u (l u ++ [x])) (addW s u x) := by
  have ho := h.ord
  have hs := h.size
  have l1 := ho.l1; have l2 := ho.l2; have l3 := ho.l3; have l4 := ho.l4; have b1 := ho.b1; have b2 := ho.b2
  have hne : ∀ k, k < p.base → some k ≠ row := fun k hk e => by have := hr k e.symm; omega
  have hnm : ∀ k, k ≠ p.mb → some k ≠ some p.mb := fun k hk e => hk (by injection e)
  have hs2 := hg.size
  refine ⟨?_, hm, ?_, ?_, hf.grown hg2 fun g hg => by injection hg with hg; omega, fun t ht => ?_, ?_, ho, by have := hg2.size; omega, fun k => by rw [updI_other _ _ (labG_neg hu).symm]; exact h.lk k, fun t ht => ?_⟩
  · exact (hg2.block _ (by omega) (hnm _ ho.n1)).trans ((hg.block _ (by omega) (hne _ l1)).trans h.box)
  · exact ((h.lins.grown hg (hne _ l3)).grown hg2 (hnm _ ho.n4.symm)).congr fun j _ => by rw [updI_other _ _ (labG_neg hu).symm]
  · exact (h.outs.grown hg (hne _ l4)).grown hg2 (hnm _ ho.n5.symm)
  · by_cases e : t = u
    · rw [e, updI_same]; exact hz
    · rw [updI_other _ _ e]; exact h.z t ht
  · have hbl : Below p.B w w' := ⟨hg.os, hg.tape, hg.output, hg.size, fun k hk => hg.block k (by omega) (hne k (by omega))⟩
    have hbl2 : Below p.B w' w'' := ⟨hg2.os, hg2.tape, hg2.output, hg2.size, fun k hk => hg2.block k (by omega) (hnm k (by omega))⟩
    exact h.net.below (hbl.trans hbl2) (Nat.le_refl _)
  · show StQ (atW t (s.way ++ [(u, x)])) _
    rw [atW_app, atW_one]
    by_cases e : t = u
    · subst e; rw [if_pos rfl, updI_same]; exact (h.wk t ht).app (StQ.refl _)
    · rw [if_neg (Ne.symm e), List.append_nil, updI_other _ _ e]; exact h.wk t ht
/-- what comes in a tick is taken -/
theorem PostA.take (h : PostA p w nm own hv l s) (t : Int) (ht : 0 ≤ t) (hm : MapH w' p.mb nm (updI hv t nilS)) (hg : w.grownBy w' (some p.mb)) : PostA p w' nm own (updI hv t nilS) (updI l t []) (gone t s) := by
  have ho := h.ord
  have hs := h.size
  have l1 := ho.l1; have l2 := ho.l2; have l3 := ho.l3; have l4 := ho.l4; have b1 := ho.b1; have b2 := ho.b2
  have hnm : ∀ k, k ≠ p.mb → some k ≠ some p.mb := fun k hk e => hk (by injection e)
  refine ⟨(hg.block _ (by omega) (hnm _ ho.n1)).trans h.box, hm, ?_, h.outs.grown hg (hnm _ ho.n5.symm), ?_, fun u hu => ?_, ?_, ho, by have := hg.size; omega, fun k => by rw [updI_other _ _ (labG_neg ht).symm]; exact h.lk k, fun u hu => ?_⟩
  · exact (h.lins.grown hg (hnm _ ho.n4.symm)).congr fun j _ => by rw [updI_other _ _ (labG_neg ht).symm]
  · exact (h.fam.drop t).grown hg fun g hg => by injection hg with hg; omega
  · by_cases e : u = t
    · rw [e, updI_same]; rfl
    · rw [updI_other _ _ e]; exact h.z u hu
  · exact h.net.below ⟨hg.os, hg.tape, hg.output, hg.size, fun k hk => hg.block k (by omega) (hnm k (by omega))⟩ (Nat.le_refl _)
  · show StQ (atW u (s.way.filter _)) _
    rw [atW_gone]
    by_cases e : u = t
    · rw [if_pos e, e, updI_same]; exact StQ.refl _
    · rw [if_neg e, updI_other _ _ e]; exact h.wk u hu
end
end Go.Proofs.Ytlbbhlkbhegegaa
