/- Arguments opened: slices of structs of one-cell fields, slices of ints, nets, frames. -/
import Derived.Test.YtlbbhlkbhegegaaRows
import Derived.Test.YtlbbhlkbhegegaaFrm
import Derived.ProofKit
import Derived.OpenShut
import Derived.ChangeOld
import Derived.Below
import Derived.Deep.Slices
import Derived.Deep.Fields
import Derived.ChangeSame
import Derived.Lib.SmallJoins
namespace Go.Proofs.Ytlbbhlkbhegegaa
open Go.RowKit Go.ChangeShapes Go.WideShapes Go.ChangeAt Go.Deep Go.Joins

theorem own : ownKnob Try.prog.godebug = none := by kernel_rfl
theorem laidOut : laidOutB Try.prog = true := by kernel_rfl

section
variable {H : Type} {enc : TypeId × Value → H} {P : Program} {w : World} {base : Nat} {spare : Nat → Bool} {held : Bool}
theorem open_slice_fields {t e : TypeId} {fs : Array Field} {fuel : Nat} {cs : List Value} {x : DataW H × List MemPlace} (ht : P.underlying t = some (.slice e)) (he : P.underlying e = some (.struct fs))
    (hone : oneCellFields P fs = true) (hC : P.cellsOf e = fs.size) (h : DataW.trod enc P w base spare held fuel t cs = some x) :
    (cs = [.slice none 0 0] ∧ x = (.nil, [])) ∨
    ∃ (a : Addr) (len cap m : Nat) (D : Nat → DataW H) (Pl : Nat → List MemPlace), cs = [.slice (some a) len cap] ∧ base ≤ a.block ∧ len ≤ cap ∧ cap ≤ maxLen ∧ m = (if spare a.block then cap else len) ∧
      x = (.slice ((List.range len).map D) ((List.range (m - len)).map fun j => D (len + j)), MemPlace.row a (m * fs.size) ++ (List.range m).flatMap Pl) ∧
      ∀ i, i < m → ∃ (ys : List (DataW H × List MemPlace)) (n : Nat), D i = .agg (ys.map (·.1)) ∧ Pl i = ys.flatMap (·.2) ∧ ys.length = fs.size ∧
        ∀ (j : Nat) (f : Field), fs[j]? = some f → ∃ (v : Value) (y : DataW H × List MemPlace), w.cell? (a.add (i * fs.size + j)) = some v ∧ ys[j]? = some y ∧ DataW.trod enc P w base spare held n f.type [v] = some y := by
  rcases open_slice ht h with h0 | ⟨a, len, cap, m, n, D, Pl, hcs, hb, hl, hm, hmm, hx, hi⟩
  · exact .inl h0
  · refine .inr ⟨a, len, cap, m, D, Pl, hcs, hb, hl, hm, hmm, by rw [hC] at hx; exact hx, fun i him => ?_⟩
    obtain ⟨cs', hc, ht'⟩ := hi i him
    rw [hC] at hc
    obtain ⟨ys, n', hn', hy, hlen, hyl, hf⟩ := DataW.trod_struct he ht'
    obtain ⟨_, hcl, hat⟩ := World.cells?_some hc
    simp only [Prod.mk.injEq] at hy
    refine ⟨ys, n', hy.1, hy.2, hyl, fun j f hj => ?_⟩
    obtain ⟨ho, hk⟩ := hone_of hone j f hj
    have hjl : j < fs.size := (Array.getElem?_eq_some_iff.1 hj).1
    have hcell := hat j hjl
    have hv : cs'[j]? = some (cs'[j]'(by omega)) := List.getElem?_eq_getElem (by omega)
    have h1 := hf j f hj
    rw [ho, hk] at h1
    have hone' : (cs'.drop j).take 1 = [cs'[j]'(by omega)] := by
      rw [List.drop_eq_getElem_cons (by omega)]
      rfl
    rw [hone'] at h1
    have hys : ys[j]? = some (ys[j]'(by omega)) := List.getElem?_eq_getElem (by omega)
    refine ⟨_, _, ?_, hys, h1.trans hys⟩
    rw [← Go.Deep.add_add, hcell, hv]
theorem spot_of_cell {a : Addr} {v : Value} (h : w.cell? a = some v) : a.spot = none := by
  unfold World.cell? at h
  split at h
  · split at h
    · cases h
    · rename_i hs
      rcases hx : a.spot with _ | s
      · rfl
      · rw [hx] at hs; exact absurd rfl hs
  · cases h

theorem add_none (b off k : Nat) : (Addr.add ⟨b, off, none⟩ k) = ⟨b, off + k, none⟩ := by
  unfold Addr.add
  by_cases h : k = 0 <;> simp [h]
theorem add_zero_ (a : Addr) : a.add 0 = a := by simp [Addr.add]
/-- a slice of structs: its cells by number, each with a reading of its own -/
theorem open_rows {t e : TypeId} {fs : Array Field} {fuel : Nat} {cs : List Value} {x : DataW H × List MemPlace} (ht : P.underlying t = some (.slice e)) (he : P.underlying e = some (.struct fs))
    (hone : oneCellFields P fs = true) (hC : P.cellsOf e = fs.size) (h0 : 0 < fs.size) (h : DataW.trod enc P w base spare held fuel t cs = some x) :
    ∃ (A : Option Addr) (len cap : Nat) (F : Nat → Nat → Value), cs = [.slice A len cap] ∧ len ≤ cap ∧ cap ≤ maxLen ∧ SlA w w.heap.size fs.size A len F ∧
      ∀ (i j : Nat) (f : Field), i < len → fs[j]? = some f → ∃ (n : Nat) (y : DataW H × List MemPlace), DataW.trod enc P w base spare held n f.type [F i j] = some y := by
  rcases open_slice_fields ht he hone hC h with ⟨hcs, _⟩ | ⟨a, len, cap, m, D, Pl, hcs, hb, hl, hm, hmm, hx, hi⟩
  · exact ⟨none, 0, 0, fun _ _ => undef, hcs, Nat.le_refl _, Nat.zero_le _, fun hn => by omega, fun i j f hi => by omega⟩
  · have hlm : len ≤ m := by rw [hmm]; split <;> omega
    have hcell : ∀ i j, i < len → j < fs.size → ∃ v, w.cell? (a.add (i * fs.size + j)) = some v := fun i j h1 h2 => by
      obtain ⟨ys, n, _, _, _, hf⟩ := hi i (by omega)
      obtain ⟨v, y, hc, _, _⟩ := hf j fs[j] (Array.getElem?_eq_getElem h2)
      exact ⟨v, hc⟩
    refine ⟨some a, len, cap, fun i j => (w.cell? (a.add (i * fs.size + j))).getD undef, hcs, hl, hm, fun hn => ?_, fun i j f h1 h2 => ?_⟩
    · obtain ⟨v0, hv0⟩ := hcell 0 0 hn h0
      rw [show 0 * fs.size + 0 = 0 by omega, add_zero_] at hv0
      have hsp := spot_of_cell hv0
      have hlt := World.block_lt_of_cell? w _ hv0
      obtain ⟨b, off, sp⟩ := a
      have hsp : sp = none := hsp
      subst hsp
      refine ⟨b, off, rfl, hlt, fun i j h1 h2 => ?_⟩
      obtain ⟨v, hv⟩ := hcell i j h1 h2
      show _ = some ((w.cell? (Addr.add ⟨b, off, none⟩ (i * fs.size + j))).getD undef)
      rw [hv]
      rw [add_none, ← Nat.add_assoc] at hv
      exact hv
    · obtain ⟨ys, n, _, _, _, hf⟩ := hi i (by omega)
      obtain ⟨v, y, hc, _, ht'⟩ := hf j f h2
      refine ⟨n, y, ?_⟩
      show DataW.trod enc P w base spare held n f.type [(w.cell? (a.add (i * fs.size + j))).getD undef] = some y
      rw [hc]
      exact ht'
def numV : Value → Int | .int _ n => n | _ => 0
theorem numV_of {fuel : Nat} {t : TypeId} {v : Value} {y : DataW H × List MemPlace} (ht : P.underlying t = some (.int .i64)) (h : DataW.trod enc P w base spare held fuel t [v] = some y) : v = .int .i64 (numV v) ∧ (Lit.int .i64 (numV v)).wf = true := by
  obtain ⟨n, hcs, _, hw⟩ := DataW.trod_int ht h
  injection hcs with hv
  subst hv
  exact ⟨rfl, hw⟩
/-- a slice of ints -/
theorem open_intsA {t e : TypeId} {fuel : Nat} {cs : List Value} {x : DataW H × List MemPlace} (ht : P.underlying t = some (.slice e)) (he : P.underlying e = some (.int .i64)) (hc : P.cellsOf e = 1)
    (h : DataW.trod enc P w base spare held fuel t cs = some x) : ∃ (A : Option Addr) (cap : Nat) (l : List Int), cs = [.slice A l.length cap] ∧ l.length ≤ cap ∧ cap ≤ maxLen ∧ IntsA w w.heap.size A l ∧ ∀ n ∈ l, (Lit.int .i64 n).wf = true := by
  rcases open_ints ht he hc h with ⟨hcs, _⟩ | ⟨a, len, cap, zs, hcs, _, hl, hm, hz, _, hcell, hwz⟩
  · exact ⟨none, 0, [], hcs, Nat.le_refl _, Nat.zero_le _, ⟨Nat.zero_le _, fun hn => by simp at hn⟩, fun n hn => by cases hn⟩
  · have hlz : len ≤ zs.length := by rw [hz]; split <;> omega
    have hll : (zs.take len).length = len := by rw [List.length_take]; omega
    refine ⟨some a, cap, zs.take len, by rw [hll]; exact hcs, by omega, hm, ⟨by omega, fun hn => ?_⟩, fun n hn => hwz n (List.mem_of_mem_take hn)⟩
    have hv0 := hcell 0 (by omega)
    rw [add_zero_] at hv0
    have hsp := spot_of_cell hv0
    have hlt := World.block_lt_of_cell? w _ hv0
    obtain ⟨b, off, sp⟩ := a
    have hsp : sp = none := hsp
    subst hsp
    refine ⟨b, off, rfl, hlt, fun i hi => ?_⟩
    have h1 := hcell i (by omega)
    rw [List.getD_eq_getElem?_getD, List.getElem?_take, if_pos (by omega), ← List.getD_eq_getElem?_getD]
    rw [add_none] at h1
    exact h1
end
section
variable {H : Type} {enc : TypeId × Value → H} {w : World} {base : Nat} {spare : Nat → Bool} {held : Bool}
theorem range_getD {α : Type} {n i : Nat} (f : Nat → α) (d : α) (hi : i < n) : ((List.range n).map f).getD i d = f i := by
  simp [List.getD_eq_getElem?_getD, hi]
theorem open_frames {fuel : Nat} {cs : List Value} {x : DataW H × List MemPlace} (h : DataW.trod enc Try.prog w base spare held fuel 34 cs = some x) :
    ∃ (A : Option Addr) (cap : Nat) (l : List MFrame), cs = [.slice A l.length cap] ∧ l.length ≤ cap ∧ cap ≤ maxLen ∧ FramesA w w.heap.size A l ∧
      ∀ f ∈ l, (Lit.int .i64 f.size).wf = true ∧ (Lit.int .i64 f.every).wf = true ∧ (Lit.int .i64 f.jitter).wf = true ∧ (Lit.int .i64 f.due).wf = true ∧ (Lit.int .i64 f.rank).wf = true := by
  obtain ⟨A, len, cap, F, hcs, hl, hm, hS, hF⟩ := open_rows Try.underlying34 Try.underlying41 (by kernel_rfl) (by kernel_rfl) (by decide) h
  have hn : ∀ i j, i < len → j < 5 → F i j = .int .i64 (numV (F i j)) ∧ (Lit.int .i64 (numV (F i j))).wf = true := fun i j hi hj => by
    match j, hj with
    | 0, _ => obtain ⟨n, y, hy⟩ := hF i 0 _ hi rfl; exact numV_of Try.underlying3 hy
    | 1, _ => obtain ⟨n, y, hy⟩ := hF i 1 _ hi rfl; exact numV_of Try.underlying3 hy
    | 2, _ => obtain ⟨n, y, hy⟩ := hF i 2 _ hi rfl; exact numV_of Try.underlying3 hy
    | 3, _ => obtain ⟨n, y, hy⟩ := hF i 3 _ hi rfl; exact numV_of Try.underlying3 hy
    | 4, _ => obtain ⟨n, y, hy⟩ := hF i 4 _ hi rfl; exact numV_of Try.underlying3 hy
  refine ⟨A, cap, (List.range len).map fun i => ⟨numV (F i 0), numV (F i 1), numV (F i 2), numV (F i 3), numV (F i 4)⟩, by simpa using hcs, by simpa using hl, hm, ⟨by simp; omega, fun hn0 => ?_⟩, fun f hf => ?_⟩
  · simp only [List.length_map, List.length_range] at hn0 ⊢
    obtain ⟨b, off, hA, hlt, hc⟩ := hS hn0
    refine ⟨b, off, hA, hlt, fun i j hi hj => ?_⟩
    have h1 := hc i j hi hj
    rw [(hn i j hi hj).1] at h1
    refine h1.trans ?_
    unfold frameCell
    rw [range_getD _ _ hi]
    match j, hj with
    | 0, _ => rfl
    | 1, _ => rfl
    | 2, _ => rfl
    | 3, _ => rfl
    | 4, _ => rfl
  · obtain ⟨i, hi, rfl⟩ := List.mem_map.1 hf
    have hi := List.mem_range.1 hi
    exact ⟨(hn i 0 hi (by omega)).2, (hn i 1 hi (by omega)).2, (hn i 2 hi (by omega)).2, (hn i 3 hi (by omega)).2, (hn i 4 hi (by omega)).2⟩
set_option maxRecDepth 100000 in
theorem open_net {r : Reach} {b0 : Nat} {v : Value} {d : DataW H} {p : List MemPlace} (hv : Value.okWide Try.prog w r b0 25 v) (h : DataW.Trod enc Try.prog w base spare held 25 v d p) :
    ∃ (A1 A2 : Option Addr) (c1 c2 : Nat) (n : MNet), v = .agg #[.slice A1 n.gates.length c1, .slice A2 n.flows.length c2] ∧ n.gates.length ≤ c1 ∧ n.flows.length ≤ c2 ∧ c1 ≤ maxLen ∧ c2 ≤ maxLen ∧ NetA w w.heap.size A1 A2 n ∧
      (∀ f ∈ n.flows, (Lit.int .i64 f.burst).wf = true ∧ (Lit.int .i64 f.rate).wf = true) := by
  obtain ⟨v0, v1, y0, y1, fuel, rfl, _, _, h0, h1⟩ := open_agg2 (P := Try.prog) (t := 25) Try.underlying25 (by kernel_rfl) (by kernel_rfl) hv h
  obtain ⟨A1, n1, c1, G, hcs, hl1, hm1, hS1, hF1⟩ := open_rows Try.underlying22 Try.underlying74 (by kernel_rfl) (by kernel_rfl) (by decide) h0
  injection hcs with hcs
  subst hcs
  obtain ⟨A2, n2, c2, F, hcs, hl2, hm2, hS2, hF2⟩ := open_rows Try.underlying23 Try.underlying47 (by kernel_rfl) (by kernel_rfl) (by decide) h1
  injection hcs with hcs
  subst hcs
  have hg : ∀ i j, i < n1 → j < 2 → G i j = .int .i64 (numV (G i j)) := fun i j hi hj => by
    match j, hj with
    | 0, _ => obtain ⟨n, y, hy⟩ := hF1 i 0 _ hi rfl; exact (numV_of Try.underlying3 hy).1
    | 1, _ => obtain ⟨n, y, hy⟩ := hF1 i 1 _ hi rfl; exact (numV_of Try.underlying3 hy).1
  have hf : ∀ i j, i < n2 → j < 2 → F i j = .int .i64 (numV (F i j)) ∧ (Lit.int .i64 (numV (F i j))).wf = true := fun i j hi hj => by
    match j, hj with
    | 0, _ => obtain ⟨n, y, hy⟩ := hF2 i 0 _ hi rfl; exact numV_of Try.underlying3 hy
    | 1, _ => obtain ⟨n, y, hy⟩ := hF2 i 1 _ hi rfl; exact numV_of Try.underlying3 hy
  have hp : ∀ i, ∃ (A : Option Addr) (cap : Nat) (l : List Int), i < n2 → F i 2 = .slice A l.length cap ∧ l.length ≤ cap ∧ IntsA w w.heap.size A l := fun i => by
    by_cases hi : i < n2
    · obtain ⟨n, y, hy⟩ := hF2 i 2 _ hi rfl
      obtain ⟨A, cap, l, hcs, hl, _, hA, _⟩ := open_intsA Try.underlying28 Try.underlying3 (by kernel_rfl) hy
      injection hcs with hcs
      exact ⟨A, cap, l, fun _ => ⟨hcs, hl, hA⟩⟩
    · exact ⟨none, 0, [], fun h => absurd h hi⟩
  let pA := fun i => Classical.choose (hp i)
  let pC := fun i => Classical.choose (Classical.choose_spec (hp i))
  let pL := fun i => Classical.choose (Classical.choose_spec (Classical.choose_spec (hp i)))
  have hpp : ∀ i, i < n2 → F i 2 = .slice (pA i) (pL i).length (pC i) ∧ (pL i).length ≤ pC i ∧ IntsA w w.heap.size (pA i) (pL i) := fun i => Classical.choose_spec (Classical.choose_spec (Classical.choose_spec (hp i)))
  refine ⟨A1, A2, c1, c2, ⟨(List.range n1).map fun i => ⟨numV (G i 0), numV (G i 1)⟩, (List.range n2).map fun i => ⟨numV (F i 0), numV (F i 1), pL i⟩⟩, by simp, by simpa using hl1, by simpa using hl2, hm1, hm2, ⟨by simp; omega, by simp; omega, ?_, fun i => (pA i, pC i), ?_, ?_⟩, ?_⟩
  · intro hn0
    simp only [List.length_map, List.length_range] at hn0 ⊢
    obtain ⟨b, off, hA, hlt, hc⟩ := hS1 hn0
    refine ⟨b, off, hA, hlt, fun i j hi hj => ?_⟩
    have h1 := hc i j hi hj
    rw [hg i j hi hj] at h1
    refine h1.trans ?_
    unfold gateCell
    rw [range_getD _ _ hi]
    match j, hj with
    | 0, _ => rfl
    | 1, _ => rfl
  · intro hn0
    simp only [List.length_map, List.length_range] at hn0 ⊢
    obtain ⟨b, off, hA, hlt, hc⟩ := hS2 hn0
    refine ⟨b, off, hA, hlt, fun i j hi hj => ?_⟩
    have h1 := hc i j hi hj
    refine h1.trans ?_
    unfold flowCell
    rw [range_getD _ _ hi]
    match j, hj with
    | 0, _ => rw [(hf i 0 hi (by omega)).1]; rfl
    | 1, _ => rw [(hf i 1 hi (by omega)).1]; rfl
    | 2, _ => rw [(hpp i hi).1]; rfl
  · intro i hi
    simp only [List.length_map, List.length_range] at hi
    rw [range_getD _ _ hi]
    exact ⟨(hpp i hi).2.1, (hpp i hi).2.2⟩
  · intro f hfm
    obtain ⟨i, hi, rfl⟩ := List.mem_map.1 hfm
    have hi := List.mem_range.1 hi
    exact ⟨(hf i 0 hi (by omega)).2, (hf i 1 hi (by omega)).2⟩
end
end Go.Proofs.Ytlbbhlkbhegegaa
