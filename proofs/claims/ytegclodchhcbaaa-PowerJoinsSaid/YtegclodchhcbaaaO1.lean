/- Arguments opened: grids, faults, cases, bridges. -/
import Derived.Test.YtegclodchhcbaaaRows
import Derived.Test.YtegclodchhcbaaaLa
import Derived.ProofKit
import Derived.OpenShut
import Derived.ChangeOld
import Derived.Below
import Derived.Deep.Slices
import Derived.Deep.Fields
import Derived.ChangeSame
import Derived.Lib.SmallJoins
namespace Go.Proofs.Ytegclodchhcbaaa
open Go.RowKit Go.ChangeShapes Go.WideShapes Go.ChangeAt Go.Deep Go.Joins

theorem own : ownKnob Try.prog.godebug = none := by kernel_rfl
theorem laidOut : laidOutB Try.prog = true := by kernel_rfl

section
variable {H : Type} {enc : TypeId × Value → H} {P : Program} {w : World} {base : Nat} {spare : Nat → Bool} {held : Bool}
theorem open_slice_fields {t e : TypeId} {fs : Array Field} {fuel : Nat} {cs : List Value} {x : DataW H × List MemPlace} (ht : P.underlying t = some (.slice e)) (he : P.underlying e = some (.struct fs))
    (hone : oneCellFields P fs = true) (hC : P.cellsOf e = fs.size) (h : DataW.trod enc P w base spare held fuel t cs = some x) :
    (cs = [.slice none 0 0] ∧ x = (.nil, [])) ∨
    ∃ (a : Addr) (len cap m : Nat) (D : Nat → DataW H) (Pl : Nat → List MemPlace), cs = [.slice (some a) len cap] ∧ base ≤ a.block ∧ len ≤ cap ∧ cap ≤ maxLen ∧ m = (if spare a.block then cap else len) ∧
      x = (.slice ((List.range len).map D) ((List.range (m - len)).map fun j => D (len + j)), MemPlace.row a (m * fs.size) ++ (List.range m).flatMap Pl) ∧
      ∀ i, i < m → ∃ (ys : List (DataW H × List MemPlace)) (n : Nat), D i = .agg (ys.map (·.1)) ∧ Pl i = ys.flatMap (·.2) ∧ ys.length = fs.size ∧
        ∀ (j : Nat) (f : Field), fs[j]? = some f → ∃ (v : Value) (y : DataW H × List MemPlace), w.cell? (a.add (i * fs.size + j)) = some v ∧ ys[j]? = some y ∧ DataW.trod enc P w base spare held n f.type [v] = some y := by
  rcases open_slice ht h with h0 | ⟨a, len, cap, m, n, D, Pl, hcs, hb, hl, hm, hmm, hx, hi⟩
  · exact .inl h0
  · refine .inr ⟨a, len, cap, m, D, Pl, hcs, hb, hl, hm, hmm, by rw [hC] at hx; exact hx, fun i him => ?_⟩
    obtain ⟨cs', hc, ht'⟩ := hi i him
    rw [hC] at hc
    obtain ⟨ys, n', hn', hy, hlen, hyl, hf⟩ := DataW.trod_struct he ht'
    obtain ⟨_, hcl, hat⟩ := World.cells?_some hc
    simp only [Prod.mk.injEq] at hy
    refine ⟨ys, n', hy.1, hy.2, hyl, fun j f hj => ?_⟩
    obtain ⟨ho, hk⟩ := hone_of hone j f hj
    have hjl : j < fs.size := (Array.getElem?_eq_some_iff.1 hj).1
    have hcell := hat j hjl
    have hv : cs'[j]? = some (cs'[j]'(by omega)) := List.getElem?_eq_getElem (by omega)
    have h1 := hf j f hj
    rw [ho, hk] at h1
    have hone' : (cs'.drop j).take 1 = [cs'[j]'(by omega)] := by
      rw [List.drop_eq_getElem_cons (by omega)]
      rfl
    rw [hone'] at h1
    have hys : ys[j]? = some (ys[j]'(by omega)) := List.getElem?_eq_getElem (by omega)
    refine ⟨_, _, ?_, hys, h1.trans hys⟩
    rw [← Go.Deep.add_add, hcell, hv]
theorem spot_of_cell {a : Addr} {v : Value} (h : w.cell? a = some v) : a.spot = none := by
  unfold World.cell? at h
  split at h
  · split at h
    · cases h
    · rename_i hs
      rcases hx : a.spot with _ | s
      · rfl
      · rw [hx] at hs; exact absurd rfl hs
  · cases h

theorem add_none (b off k : Nat) : (Addr.add ⟨b, off, none⟩ k) = ⟨b, off + k, none⟩ := by
  unfold Addr.add
  by_cases h : k = 0 <;> simp [h]
theorem add_zero_ (a : Addr) : a.add 0 = a := by simp [Addr.add]
/-- a slice of structs: its cells by number, each with a reading of its own -/
theorem open_rows {t e : TypeId} {fs : Array Field} {fuel : Nat} {cs : List Value} {x : DataW H × List MemPlace} (ht : P.underlying t = some (.slice e)) (he : P.underlying e = some (.struct fs))
    (hone : oneCellFields P fs = true) (hC : P.cellsOf e = fs.size) (h0 : 0 < fs.size) (h : DataW.trod enc P w base spare held fuel t cs = some x) :
    ∃ (A : Option Addr) (len cap : Nat) (F : Nat → Nat → Value), cs = [.slice A len cap] ∧ len ≤ cap ∧ cap ≤ maxLen ∧ SlA w w.heap.size fs.size A len F ∧
      ∀ (i j : Nat) (f : Field), i < len → fs[j]? = some f → ∃ (n : Nat) (y : DataW H × List MemPlace), DataW.trod enc P w base spare held n f.type [F i j] = some y := by
  rcases open_slice_fields ht he hone hC h with ⟨hcs, _⟩ | ⟨a, len, cap, m, D, Pl, hcs, hb, hl, hm, hmm, hx, hi⟩
  · exact ⟨none, 0, 0, fun _ _ => undef, hcs, Nat.le_refl _, Nat.zero_le _, fun hn => by omega, fun i j f hi => by omega⟩
  · have hlm : len ≤ m := by rw [hmm]; split <;> omega
    have hcell : ∀ i j, i < len → j < fs.size → ∃ v, w.cell? (a.add (i * fs.size + j)) = some v := fun i j h1 h2 => by
      obtain ⟨ys, n, _, _, _, hf⟩ := hi i (by omega)
      obtain ⟨v, y, hc, _, _⟩ := hf j fs[j] (Array.getElem?_eq_getElem h2)
      exact ⟨v, hc⟩
    refine ⟨some a, len, cap, fun i j => (w.cell? (a.add (i * fs.size + j))).getD undef, hcs, hl, hm, fun hn => ?_, fun i j f h1 h2 => ?_⟩
    · obtain ⟨v0, hv0⟩ := hcell 0 0 hn h0
      rw [show 0 * fs.size + 0 = 0 by omega, add_zero_] at hv0
      have hsp := spot_of_cell hv0
      have hlt := World.block_lt_of_cell? w _ hv0
      obtain ⟨b, off, sp⟩ := a
      have hsp : sp = none := hsp
      subst hsp
      refine ⟨b, off, rfl, hlt, fun i j h1 h2 => ?_⟩
      obtain ⟨v, hv⟩ := hcell i j h1 h2
      show _ = some ((w.cell? (Addr.add ⟨b, off, none⟩ (i * fs.size + j))).getD undef)
      rw [hv]
      rw [add_none, ← Nat.add_assoc] at hv
      exact hv
    · obtain ⟨ys, n, _, _, _, hf⟩ := hi i (by omega)
      obtain ⟨v, y, hc, _, ht'⟩ := hf j f h2
      refine ⟨n, y, ?_⟩
      show DataW.trod enc P w base spare held n f.type [(w.cell? (a.add (i * fs.size + j))).getD undef] = some y
      rw [hc]
      exact ht'
def numV : Value → Int | .int _ n => n | _ => 0
theorem numV_of {fuel : Nat} {t : TypeId} {v : Value} {y : DataW H × List MemPlace} (ht : P.underlying t = some (.int .i64)) (h : DataW.trod enc P w base spare held fuel t [v] = some y) : v = .int .i64 (numV v) ∧ (Lit.int .i64 (numV v)).wf = true := by
  obtain ⟨n, hcs, _, hw⟩ := DataW.trod_int ht h
  injection hcs with hv
  subst hv
  exact ⟨rfl, hw⟩
/-- a slice of ints -/
theorem open_intsA {t e : TypeId} {fuel : Nat} {cs : List Value} {x : DataW H × List MemPlace} (ht : P.underlying t = some (.slice e)) (he : P.underlying e = some (.int .i64)) (hc : P.cellsOf e = 1)
    (h : DataW.trod enc P w base spare held fuel t cs = some x) : ∃ (A : Option Addr) (cap : Nat) (l : List Int), cs = [.slice A l.length cap] ∧ l.length ≤ cap ∧ cap ≤ maxLen ∧ IntsA w w.heap.size A l ∧ ∀ n ∈ l, (Lit.int .i64 n).wf = true := by
  rcases open_ints ht he hc h with ⟨hcs, _⟩ | ⟨a, len, cap, zs, hcs, _, hl, hm, hz, _, hcell, hwz⟩
  · exact ⟨none, 0, [], hcs, Nat.le_refl _, Nat.zero_le _, ⟨Nat.zero_le _, fun hn => by simp at hn⟩, fun n hn => by cases hn⟩
  · have hlz : len ≤ zs.length := by rw [hz]; split <;> omega
    have hll : (zs.take len).length = len := by rw [List.length_take]; omega
    refine ⟨some a, cap, zs.take len, by rw [hll]; exact hcs, by omega, hm, ⟨by omega, fun hn => ?_⟩, fun n hn => hwz n (List.mem_of_mem_take hn)⟩
    have hv0 := hcell 0 (by omega)
    rw [add_zero_] at hv0
    have hsp := spot_of_cell hv0
    have hlt := World.block_lt_of_cell? w _ hv0
    obtain ⟨b, off, sp⟩ := a
    have hsp : sp = none := hsp
    subst hsp
    refine ⟨b, off, rfl, hlt, fun i hi => ?_⟩
    have h1 := hcell i (by omega)
    rw [List.getD_eq_getElem?_getD, List.getElem?_take, if_pos (by omega), ← List.getD_eq_getElem?_getD]
    rw [add_none] at h1
    exact h1
end
section
variable {H : Type} {enc : TypeId × Value → H} {w : World} {base : Nat} {spare : Nat → Bool} {held : Bool}
theorem range_getD {α : Type} {n i : Nat} (f : Nat → α) (d : α) (hi : i < n) : ((List.range n).map f).getD i d = f i := by
  simp [List.getD_eq_getElem?_getD, hi]
def boolV : Value → Bool | .bool b => b | _ => false
theorem boolV_of {fuel : Nat} {v : Value} {y : DataW H × List MemPlace} (h : DataW.trod enc Try.prog w base spare held fuel 4 [v] = some y) : v = .bool (boolV v) := by
  obtain ⟨n, hcs, _⟩ := DataW.trod_bool Try.underlying4 h
  injection hcs with hv
  subst hv
  rfl
set_option maxRecDepth 100000 in
theorem open_lines {fuel : Nat} {cs : List Value} {x : DataW H × List MemPlace} (h : DataW.trod enc Try.prog w base spare held fuel 22 cs = some x) :
    ∃ (A : Option Addr) (cap : Nat) (l : List MLine), cs = [.slice A l.length cap] ∧ l.length ≤ cap ∧ LinesA w w.heap.size A l := by
  obtain ⟨A, len, cap, F, hcs, hl, hm, hS, hF⟩ := open_rows Try.underlying22 Try.underlying67 (by kernel_rfl) (by kernel_rfl) (by decide) h
  have hn : ∀ i j, i < len → j < 4 → F i j = if j = 3 then .bool (boolV (F i j)) else .int .i64 (numV (F i j)) := fun i j hi hj => by
    match j, hj with
    | 0, _ => obtain ⟨n, y, hy⟩ := hF i 0 _ hi rfl; exact (numV_of Try.underlying3 hy).1
    | 1, _ => obtain ⟨n, y, hy⟩ := hF i 1 _ hi rfl; exact (numV_of Try.underlying3 hy).1
    | 2, _ => obtain ⟨n, y, hy⟩ := hF i 2 _ hi rfl; exact (numV_of Try.underlying3 hy).1
    | 3, _ => obtain ⟨n, y, hy⟩ := hF i 3 _ hi rfl; exact boolV_of hy
  refine ⟨A, cap, (List.range len).map fun i => ⟨numV (F i 0), numV (F i 1), numV (F i 2), boolV (F i 3)⟩, by simpa using hcs, by simpa using hl, ⟨by simp; omega, fun hn0 => ?_⟩⟩
  simp only [List.length_map, List.length_range] at hn0 ⊢
  obtain ⟨b, off, hA, hlt, hc⟩ := hS hn0
  refine ⟨b, off, hA, hlt, fun i j hi hj => ?_⟩
  have h1 := hc i j hi hj
  rw [hn i j hi hj] at h1
  refine h1.trans ?_
  unfold lineCell
  rw [range_getD _ _ hi]
  match j, hj with
  | 0, _ => rfl
  | 1, _ => rfl
  | 2, _ => rfl
  | 3, _ => rfl
set_option maxRecDepth 100000 in
theorem open_srcs {fuel : Nat} {cs : List Value} {x : DataW H × List MemPlace} (h : DataW.trod enc Try.prog w base spare held fuel 23 cs = some x) :
    ∃ (A : Option Addr) (cap : Nat) (l : List MSrc), cs = [.slice A l.length cap] ∧ l.length ≤ cap ∧ SrcsA w w.heap.size A l := by
  obtain ⟨A, len, cap, F, hcs, hl, hm, hS, hF⟩ := open_rows Try.underlying23 Try.underlying57 (by kernel_rfl) (by kernel_rfl) (by decide) h
  have hn : ∀ i j, i < len → j < 2 → F i j = .int .i64 (numV (F i j)) := fun i j hi hj => by
    match j, hj with
    | 0, _ => obtain ⟨n, y, hy⟩ := hF i 0 _ hi rfl; exact (numV_of Try.underlying3 hy).1
    | 1, _ => obtain ⟨n, y, hy⟩ := hF i 1 _ hi rfl; exact (numV_of Try.underlying3 hy).1
  refine ⟨A, cap, (List.range len).map fun i => ⟨numV (F i 0), numV (F i 1)⟩, by simpa using hcs, by simpa using hl, ⟨by simp; omega, fun hn0 => ?_⟩⟩
  simp only [List.length_map, List.length_range] at hn0 ⊢
  obtain ⟨b, off, hA, hlt, hc⟩ := hS hn0
  refine ⟨b, off, hA, hlt, fun i j hi hj => ?_⟩
  have h1 := hc i j hi hj
  rw [hn i j hi hj] at h1
  refine h1.trans ?_
  unfold srcCell
  rw [range_getD _ _ hi]
  match j, hj with
  | 0, _ => rfl
  | 1, _ => rfl
set_option maxRecDepth 100000 in
theorem open_users {fuel : Nat} {cs : List Value} {x : DataW H × List MemPlace} (h : DataW.trod enc Try.prog w base spare held fuel 24 cs = some x) :
    ∃ (A : Option Addr) (cap : Nat) (l : List MUser), cs = [.slice A l.length cap] ∧ l.length ≤ cap ∧ UsersA w w.heap.size A l := by
  obtain ⟨A, len, cap, F, hcs, hl, hm, hS, hF⟩ := open_rows Try.underlying24 Try.underlying55 (by kernel_rfl) (by kernel_rfl) (by decide) h
  have hn : ∀ i j, i < len → j < 3 → F i j = .int .i64 (numV (F i j)) := fun i j hi hj => by
    match j, hj with
    | 0, _ => obtain ⟨n, y, hy⟩ := hF i 0 _ hi rfl; exact (numV_of Try.underlying3 hy).1
    | 1, _ => obtain ⟨n, y, hy⟩ := hF i 1 _ hi rfl; exact (numV_of Try.underlying3 hy).1
    | 2, _ => obtain ⟨n, y, hy⟩ := hF i 2 _ hi rfl; exact (numV_of Try.underlying3 hy).1
  refine ⟨A, cap, (List.range len).map fun i => ⟨numV (F i 0), numV (F i 1), numV (F i 2)⟩, by simpa using hcs, by simpa using hl, ⟨by simp; omega, fun hn0 => ?_⟩⟩
  simp only [List.length_map, List.length_range] at hn0 ⊢
  obtain ⟨b, off, hA, hlt, hc⟩ := hS hn0
  refine ⟨b, off, hA, hlt, fun i j hi hj => ?_⟩
  have h1 := hc i j hi hj
  rw [hn i j hi hj] at h1
  refine h1.trans ?_
  unfold userCell
  rw [range_getD _ _ hi]
  match j, hj with
  | 0, _ => rfl
  | 1, _ => rfl
  | 2, _ => rfl
set_option maxRecDepth 100000 in
theorem open_faults {fuel : Nat} {cs : List Value} {x : DataW H × List MemPlace} (h : DataW.trod enc Try.prog w base spare held fuel 27 cs = some x) :
    ∃ (A : Option Addr) (cap : Nat) (l : List MFault), cs = [.slice A l.length cap] ∧ l.length ≤ cap ∧ FaultsA w w.heap.size A l := by
  obtain ⟨A, len, cap, F, hcs, hl, hm, hS, hF⟩ := open_rows Try.underlying27 Try.underlying41 (by kernel_rfl) (by kernel_rfl) (by decide) h
  have hn : ∀ i j, i < len → j < 2 → F i j = .int .i64 (numV (F i j)) := fun i j hi hj => by
    match j, hj with
    | 0, _ => obtain ⟨n, y, hy⟩ := hF i 0 _ hi rfl; exact (numV_of Try.underlying3 hy).1
    | 1, _ => obtain ⟨n, y, hy⟩ := hF i 1 _ hi rfl; exact (numV_of Try.underlying3 hy).1
  refine ⟨A, cap, (List.range len).map fun i => ⟨numV (F i 0), numV (F i 1)⟩, by simpa using hcs, by simpa using hl, ⟨by simp; omega, fun hn0 => ?_⟩⟩
  simp only [List.length_map, List.length_range] at hn0 ⊢
  obtain ⟨b, off, hA, hlt, hc⟩ := hS hn0
  refine ⟨b, off, hA, hlt, fun i j hi hj => ?_⟩
  have h1 := hc i j hi hj
  rw [hn i j hi hj] at h1
  refine h1.trans ?_
  unfold faultCell
  rw [range_getD _ _ hi]
  match j, hj with
  | 0, _ => rfl
  | 1, _ => rfl
set_option maxRecDepth 100000 in
/-- a struct of four one-cell fields, by its cells -/
theorem open4 {t : TypeId} {f0 f1 f2 f3 : Field} {fuel : Nat} {cs : List Value} {x : DataW H × List MemPlace} (hs : Try.prog.underlying t = some (.struct #[f0, f1, f2, f3])) (hone : oneCellFields Try.prog #[f0, f1, f2, f3] = true) (hC : Try.prog.cellsOf t = 4)
    (h : DataW.trod enc Try.prog w base spare held fuel t cs = some x) :
    ∃ (v0 v1 v2 v3 : Value) (y0 y1 y2 y3 : DataW H × List MemPlace) (n : Nat), cs = [v0, v1, v2, v3] ∧
      DataW.trod enc Try.prog w base spare held n f0.type [v0] = some y0 ∧ DataW.trod enc Try.prog w base spare held n f1.type [v1] = some y1 ∧ DataW.trod enc Try.prog w base spare held n f2.type [v2] = some y2 ∧ DataW.trod enc Try.prog w base spare held n f3.type [v3] = some y3 := by
  obtain ⟨y0, y1, y2, y3, n, _, hl, h0, h1, h2, h3⟩ := trod_struct4 hs h
  rw [hC] at hl
  obtain ⟨o0, k0⟩ := hone_of hone 0 f0 rfl
  obtain ⟨o1, k1⟩ := hone_of hone 1 f1 rfl
  obtain ⟨o2, k2⟩ := hone_of hone 2 f2 rfl
  obtain ⟨o3, k3⟩ := hone_of hone 3 f3 rfl
  match cs, hl with
  | [v0, v1, v2, v3], _ => exact ⟨v0, v1, v2, v3, y0, y1, y2, y3, n, rfl, by simpa [o0, k0] using h0, by simpa [o1, k1] using h1, by simpa [o2, k2] using h2, by simpa [o3, k3] using h3⟩
set_option maxRecDepth 100000 in
/-- a struct of a wide field and two of one cell -/
theorem open411 {t : TypeId} {f0 f1 f2 : Field} {fuel : Nat} {cs : List Value} {x : DataW H × List MemPlace} (hs : Try.prog.underlying t = some (.struct #[f0, f1, f2])) (hk : (f0.offset, Try.prog.cellsOf f0.type, f1.offset, Try.prog.cellsOf f1.type, f2.offset, Try.prog.cellsOf f2.type) = (0, 4, 4, 1, 5, 1)) (hC : Try.prog.cellsOf t = 6)
    (h : DataW.trod enc Try.prog w base spare held fuel t cs = some x) :
    ∃ (v0 v1 v2 v3 v4 v5 : Value) (y0 y1 y2 : DataW H × List MemPlace) (n : Nat), cs = [v0, v1, v2, v3, v4, v5] ∧
      DataW.trod enc Try.prog w base spare held n f0.type [v0, v1, v2, v3] = some y0 ∧ DataW.trod enc Try.prog w base spare held n f1.type [v4] = some y1 ∧ DataW.trod enc Try.prog w base spare held n f2.type [v5] = some y2 := by
  obtain ⟨xs, n, _, _, hl, hlen, hf⟩ := DataW.trod_struct hs h
  rw [hC] at hl
  simp only [Prod.mk.injEq] at hk
  obtain ⟨o0, k0, o1, k1, o2, k2⟩ := hk
  have h0 := hf 0 f0 rfl
  have h1 := hf 1 f1 rfl
  have h2 := hf 2 f2 rfl
  match xs, hlen with
  | [y0, y1, y2], _ =>
    match cs, hl with
    | [v0, v1, v2, v3, v4, v5], _ => exact ⟨v0, v1, v2, v3, v4, v5, y0, y1, y2, n, rfl, by simpa [o0, k0] using h0, by simpa [o1, k1] using h1, by simpa [o2, k2] using h2⟩
set_option maxRecDepth 100000 in
/-- a grid's four cells -/
theorem open_gridL {fuel : Nat} {v0 v1 v2 v3 : Value} {x : DataW H × List MemPlace} (h : DataW.trod enc Try.prog w base spare held fuel 26 [v0, v1, v2, v3] = some x) :
    ∃ (g : MGrid) (A1 A2 A3 : Option Addr) (c1 c2 c3 : Nat), (v0 = .int .i64 g.nodes ∧ v1 = .slice A1 g.lines.length c1 ∧ v2 = .slice A2 g.srcs.length c2 ∧ v3 = .slice A3 g.users.length c3) ∧ GridA w w.heap.size g A1 A2 A3 := by
  obtain ⟨u0, u1, u2, u3, y0, y1, y2, y3, n, e, h0, h1, h2, h3⟩ := open4 Try.underlying26 (by kernel_rfl) (by kernel_rfl) h
  injection e with e0 e
  injection e with e1 e
  injection e with e2 e
  injection e with e3 e
  subst e0 e1 e2 e3
  have n0 := (numV_of Try.underlying3 h0).1
  obtain ⟨A1, c1, l1, i1, _, g1⟩ := open_lines h1
  obtain ⟨A2, c2, l2, i2, _, g2⟩ := open_srcs h2
  obtain ⟨A3, c3, l3, i3, _, g3⟩ := open_users h3
  injection i1 with i1
  injection i2 with i2
  injection i3 with i3
  exact ⟨⟨numV v0, l1, l2, l3⟩, A1, A2, A3, c1, c2, c3, ⟨n0, i1, i2, i3⟩, ⟨g1, g2, g3⟩⟩
set_option maxRecDepth 100000 in
theorem open_grid {r : Reach} {b0 : Nat} {v : Value} {d : DataW H} {p : List MemPlace} (hv : Value.okWide Try.prog w r b0 26 v) (h : DataW.Trod enc Try.prog w base spare held 26 v d p) :
    ∃ (g : MGrid) (A1 A2 A3 : Option Addr) (c1 c2 c3 : Nat), v = .agg (gridC g A1 A2 A3 c1 c2 c3) ∧ GridA w w.heap.size g A1 A2 A3 := by
  obtain ⟨cs, rfl, _⟩ := okWide_struct Try.underlying26 hv
  obtain ⟨fuel, hf⟩ := h
  obtain ⟨u0, u1, u2, u3, _, _, _, _, _, e, _⟩ := open4 Try.underlying26 (by kernel_rfl) (by kernel_rfl) hf
  have e : cs.toList = [u0, u1, u2, u3] := e
  have hf : DataW.trod enc Try.prog w base spare held fuel 26 cs.toList = some (d, p) := hf
  rw [e] at hf
  obtain ⟨g, A1, A2, A3, c1, c2, c3, ⟨i0, i1, i2, i3⟩, hg⟩ := open_gridL hf
  refine ⟨g, A1, A2, A3, c1, c2, c3, ?_, hg⟩
  obtain ⟨l⟩ := cs
  have e : l = [u0, u1, u2, u3] := e
  rw [e, i0, i1, i2, i3]
  rfl
set_option maxRecDepth 100000 in
theorem open_case {r : Reach} {b0 : Nat} {v : Value} {d : DataW H} {p : List MemPlace} (hv : Value.okWide Try.prog w r b0 30 v) (h : DataW.Trod enc Try.prog w base spare held 30 v d p) :
    ∃ (g : MGrid) (A1 A2 A3 : Option Addr) (c1 c2 c3 : Nat) (A : Option Addr) (cap : Nat) (F : List MFault) (Aw : Option Addr) (wc : Nat) (want : List Int), v = .agg (caseC g A1 A2 A3 c1 c2 c3 A cap F Aw wc want) ∧ GridA w w.heap.size g A1 A2 A3 ∧ FaultsA w w.heap.size A F ∧ F.length ≤ cap ∧ IntsA w w.heap.size Aw want := by
  obtain ⟨cs, rfl, _⟩ := okWide_struct Try.underlying30 hv
  obtain ⟨fuel, hf⟩ := h
  obtain ⟨u0, u1, u2, u3, u4, u5, y0, y1, y2, n, e, h0, h1, h2⟩ := open411 Try.underlying30 (by kernel_rfl) (by kernel_rfl) hf
  obtain ⟨g, A1, A2, A3, c1, c2, c3, ⟨i0, i1, i2, i3⟩, hg⟩ := open_gridL h0
  obtain ⟨A, cap, F, i4, hcap, hF⟩ := open_faults h1
  obtain ⟨Aw, wc, want, i5, _, _, hW, _⟩ := open_intsA Try.underlying28 Try.underlying3 (by kernel_rfl) h2
  injection i4 with i4
  injection i5 with i5
  refine ⟨g, A1, A2, A3, c1, c2, c3, A, cap, F, Aw, wc, want, ?_, hg, hF, hcap, hW⟩
  obtain ⟨l⟩ := cs
  have e : l = [u0, u1, u2, u3, u4, u5] := e
  rw [e, i0, i1, i2, i3, i4, i5]
  rfl
set_option maxRecDepth 100000 in
theorem open_fault {r : Reach} {b0 : Nat} {v : Value} {d : DataW H} {p : List MemPlace} (hv : Value.okWide Try.prog w r b0 41 v) (h : DataW.Trod enc Try.prog w base spare held 41 v d p) :
    ∃ k n : Int, v = .agg #[.int .i64 k, .int .i64 n] := by
  obtain ⟨v0, v1, y0, y1, fuel, rfl, _, _, h0, h1⟩ := open_agg2 (P := Try.prog) (t := 41) Try.underlying41 (by kernel_rfl) (by kernel_rfl) hv h
  exact ⟨numV v0, numV v1, by rw [← (numV_of Try.underlying3 h0).1, ← (numV_of Try.underlying3 h1).1]⟩
set_option maxRecDepth 100000 in
theorem open_int1 {r : Reach} {b0 : Nat} {v : Value} {d : DataW H} {p : List MemPlace} (_hv : Value.okWide Try.prog w r b0 3 v) (h : DataW.Trod enc Try.prog w base spare held 3 v d p) : ∃ k : Int, v = .int .i64 k ∧ (Lit.int .i64 k).wf = true := by
  obtain ⟨a, rfl, rfl, rfl, hw⟩ := open_int Try.underlying3 _hv h
  exact ⟨a, rfl, hw⟩
end
end Go.Proofs.Ytegclodchhcbaaa
