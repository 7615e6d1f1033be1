/- Rows of tests of the call's own; append of tests, as a step of a region. -/
import Derived.Test.YtonpemikodajdaaDoorMp
import Derived.Deep.RegionLaw
import Derived.Laws.OwnMore
import Derived.Deep.AppendLies
import Derived.Test.YtonpemikodajdaaDoorGx
namespace Go.Proofs.YtonpemikodajdaaDoor
open Go.RowKit

def probeCells (l : List MProbe) (pv : Nat → Option Addr × Nat) : List Value := (List.range (l.length * 2)).map fun q => probeCell l pv (q / 2) (q % 2)
theorem probeCells_len (l : List MProbe) (pv : Nat → Option Addr × Nat) : (probeCells l pv).length = l.length * 2 := by unfold probeCells; simp
theorem probeCells_at {l : List MProbe} {pv : Nat → Option Addr × Nat} {q : Nat} (hq : q < l.length * 2) : (probeCells l pv)[q]? = some (probeCell l pv (q / 2) (q % 2)) := by
  unfold probeCells
  rw [List.getElem?_map, List.getElem?_range hq]; rfl
theorem probeCell_one (l : List MProbe) (pv : Nat → Option Addr × Nat) (i j : Nat) : (probeCell l pv i j).oneCell' = true := by
  unfold probeCell
  split <;> rfl
theorem probeCells_one {l : List MProbe} {pv : Nat → Option Addr × Nat} : ∀ u ∈ probeCells l pv, u.oneCell' = true := fun u hu => by
  unfold probeCells at hu
  obtain ⟨q, _, rfl⟩ := List.mem_map.1 hu
  exact probeCell_one _ _ _ _
theorem probeCells_app (l ls : List MProbe) (pv pv2 : Nat → Option Addr × Nat) : probeCells (l ++ ls) (fun i => if i < l.length then pv i else pv2 (i - l.length)) = probeCells l pv ++ probeCells ls pv2 := by
  apply List.ext_getElem?
  intro q
  by_cases hq : q < l.length * 2
  · rw [List.getElem?_append_left (by rw [probeCells_len]; exact hq), probeCells_at hq, probeCells_at (by rw [List.length_append]; omega)]
    have hi : q / 2 < l.length := by omega
    have e : (l ++ ls).getD (q / 2) ⟨0, []⟩ = l.getD (q / 2) ⟨0, []⟩ := by rw [List.getD_eq_getElem?_getD, List.getElem?_append_left hi, List.getD_eq_getElem?_getD]
    unfold probeCell
    rw [e]
    simp only [if_pos hi]
  · rw [List.getElem?_append_right (by rw [probeCells_len]; omega), probeCells_len]
    by_cases hq2 : q < (l.length + ls.length) * 2
    · rw [probeCells_at (by rw [List.length_append]; exact hq2), probeCells_at (show q - l.length * 2 < ls.length * 2 by omega)]
      have hi : ¬ q / 2 < l.length := by omega
      have e1 : (q - l.length * 2) / 2 = q / 2 - l.length := by omega
      have e2 : (q - l.length * 2) % 2 = q % 2 := by omega
      have e : (l ++ ls).getD (q / 2) ⟨0, []⟩ = ls.getD (q / 2 - l.length) ⟨0, []⟩ := by rw [List.getD_eq_getElem?_getD, List.getElem?_append_right (by omega), List.getD_eq_getElem?_getD]
      rw [e1, e2]
      unfold probeCell
      rw [e]
      simp only [if_neg hi]
    · rw [List.getElem?_eq_none (by rw [probeCells_len, List.length_append]; omega), List.getElem?_eq_none (by rw [probeCells_len]; omega)]
/-- tests in a row of the call's own; the outcomes lie below Bo -/
def OutP (w : World) (base Bo : Nat) (v : Value) (l : List MProbe) : Prop :=
  ∃ pv : Nat → Option Addr × Nat, w.ownsRow base 50 2 v l.length (probeCells l pv) ∧ ∀ i, i < l.length → (l.getD i ⟨0, []⟩).outs.length ≤ (pv i).2 ∧ IntsA w Bo (pv i).1 (l.getD i ⟨0, []⟩).outs
theorem OutP.nil (w : World) (base Bo : Nat) : OutP w base Bo (.slice none 0 0) [] := ⟨fun _ => (none, 0), World.ownsRow_nil w base 50 2, fun i hi => by simp at hi⟩
theorem OutP.keep {w w' : World} {base Bo : Nat} {v : Value} {l : List MProbe} (h : OutP w base Bo v l) (hb : Below w.heap.size w w') (hB : Bo ≤ w.heap.size) : OutP w' base Bo v l := by
  obtain ⟨pv, h1, h2⟩ := h
  exact ⟨pv, own_below h1 hb fun k hk => (own_block_lt h1 k hk).2, fun i hi => ⟨(h2 i hi).1, (h2 i hi).2.keep (hb.mono hB)⟩⟩
theorem OutP.lenV {w : World} {base Bo : Nat} {v : Value} {l : List MProbe} (h : OutP w base Bo v l) : ∃ A cap, v = .slice A l.length cap ∧ l.length ≤ cap := by
  obtain ⟨pv, ⟨_, h1⟩, _⟩ := h
  rcases h1 with ⟨hv, h0⟩ | ⟨g, cap, cur, hv, hb, hh, hn, r⟩
  · exact ⟨none, 0, by rw [hv, h0], by omega⟩
  · exact ⟨_, cap, hv, hn⟩
theorem OutP.probes {w : World} {base Bo n cap : Nat} {A : Option Addr} {l : List MProbe} (h : OutP w base Bo (.slice A n cap) l) (hB : Bo ≤ w.heap.size) : ProbesA w w.heap.size A l := by
  obtain ⟨pv, h1, h2⟩ := h
  have hlt := own_block_lt h1
  refine ⟨pv, fun hn0 => ?_, fun i hi => ⟨(h2 i hi).1, (h2 i hi).2.more hB⟩⟩
  rcases id h1.2 with ⟨_, h0⟩ | ⟨g, cap', cur, hv, hg, hb, r⟩
  · omega
  · injection hv with hA hn1 hn2
    subst hA; subst hn1; subst hn2
    refine ⟨g, 0, rfl, (hlt g rfl).2, fun i j hi hj => ?_⟩
    rw [show 0 + i * 2 + j = i * 2 + j by omega, World.ownsRow.cellAt h1 (i * 2 + j) (by omega), probeCells_at (by omega), show (i * 2 + j) / 2 = i by omega, show (i * 2 + j) % 2 = j by omega]
/-- tests that are read -/
def PrbA (w : World) (Bo : Nat) (A : Option Addr) (ls : List MProbe) : Prop :=
  ∃ pv : Nat → Option Addr × Nat, (0 < ls.length → ∃ ad, A = some ad ∧ ∀ i j, i < ls.length → j < 2 → w.cell? (ad.add (i * 2 + j)) = some (probeCell ls pv i j)) ∧ ∀ i, i < ls.length → (ls.getD i ⟨0, []⟩).outs.length ≤ (pv i).2 ∧ IntsA w Bo (pv i).1 (ls.getD i ⟨0, []⟩).outs
theorem ProbesA.prb {w : World} {B : Nat} {A : Option Addr} {l : List MProbe} (h : ProbesA w B A l) : PrbA w B A l := by
  obtain ⟨pv, h1, h2⟩ := h
  refine ⟨pv, fun hn => ?_, h2⟩
  obtain ⟨b, off, hA, _, hc⟩ := h1 hn
  exact ⟨_, hA, fun i j hi hj => by rw [add_none0, ← Nat.add_assoc]; exact hc i j hi hj⟩
theorem prb_one {w : World} {Bo nb : Nat} {p : MProbe} {Ap : Option Addr} {cp : Nat} (h0 : w.cell? ⟨nb, 0, none⟩ = some (.int .i64 p.cost)) (h1 : w.cell? ⟨nb, 1, none⟩ = some (.slice Ap p.outs.length cp)) (hl : p.outs.length ≤ cp) (hI : IntsA w Bo Ap p.outs) : PrbA w Bo (some ⟨nb, 0, none⟩) [p] := by
  refine ⟨fun _ => (Ap, cp), fun _ => ⟨_, rfl, fun i j hi hj => ?_⟩, fun i hi => ?_⟩
  · obtain rfl : i = 0 := by simpa using hi
    rw [add_none0]
    rcases (show j = 0 ∨ j = 1 by omega) with rfl | rfl
    · exact h0
    · exact h1
  · obtain rfl : i = 0 := by simpa using hi
    exact ⟨hl, hI⟩
theorem info_probe : (Tryd.prog.info? 50).map (fun i => (i.zero, i.size, i.bytes)) = some (some (.agg #[.int .i64 0, .slice none 0 0]), 2, 32) := by kernel_rfl
theorem under_probes : Tryd.prog.underlying 34 = some (.slice 50) := by kernel_rfl
set_option maxRecDepth 100000 in
theorem run_append_nothing (w : World) (ty : TypeId) (v : Value) (n : Nat) (xs : List Value) (base c : Nat) (A : Option Addr) (hown : w.ownsRow base 50 2 v n xs) : (Builtin.append_ #[34, 34] ty #[v, .slice A 0 c]).run Tryd.prog w = .ok v w := by
  obtain ⟨i0, hi, hz0, hz1, hz2⟩ := info_parts info_probe
  rcases A with _ | ad
  · rcases hown.2 with ⟨rfl, rfl⟩ | ⟨g, cap, cur, rfl, _, _, hnc, _⟩
    · simp [Builtin.append_, run_underlying under_probes, sizeOf, typeInfo, hi, Builtin.lenOf, Builtin.firstCells]
    · simp [Builtin.append_, run_underlying under_probes, sizeOf, typeInfo, hi, Builtin.lenOf, Builtin.firstCells, hnc, storeCells]
  · rcases hown.2 with ⟨rfl, rfl⟩ | ⟨g, cap, cur, rfl, _, _, hnc, _⟩
    · simp [Builtin.append_, run_underlying under_probes, sizeOf, typeInfo, hi, Builtin.lenOf, Builtin.firstCells, loadCells, loadCellsFrom]
    · simp [Builtin.append_, run_underlying under_probes, sizeOf, typeInfo, hi, Builtin.lenOf, Builtin.firstCells, hnc, storeCells, loadCells, loadCellsFrom]
theorem OutP.far {w : World} {base Bo : Nat} {v : Value} {l : List MProbe} (h : OutP w base Bo v l) {a : Addr} (hv : ∀ k, v.ownBlock = some k → k ≠ a.block) (hB : Bo ≤ a.block) (u : Value) : OutP (w.setCell a u) base Bo v l := by
  obtain ⟨pv, h1, h2⟩ := h
  exact ⟨pv, own_keep h1 fun g hg => Below.heap_setCell w a u g (hv g hg), fun i hi => ⟨(h2 i hi).1, (h2 i hi).2.keep ((Below.refl _ _).setCell (p := a) hB _)⟩⟩
set_option maxRecDepth 100000 in
theorem step_app_probes {ops : Array Oper} {o : Oper} {a : Act} {K : Act → World → Prop} {Q : Exit → Act → World → Prop} {E : Prop} (w : World) (hg : o.guard = none) (s x : Operand) (ho : o.op = .call { callee := .builtin .append, args := #[s, x], argTypes := #[34, 34] }) (base Bo : Nat) (v : Value) (l : List MProbe)
    (hs : a.eval s = v) (hown : OutP w base Bo v l) (A : Option Addr) (m c : Nat) (ls : List MProbe) (hx : a.eval x = .slice A m c) (hm : ls.length = m) (hP : PrbA w Bo A ls) (hlen : (l.length + m) * 32 ≤ 140737488355328) (hbase : base ≤ w.heap.size) (hBo : Bo ≤ base)
    (hK : ∀ v' w', OutP w' base Bo v' (l ++ ls) → w.grownBy w' v.ownBlock → (∀ g, v'.ownBlock = some g → v.ownBlock = some g ∨ w.heap.size ≤ g) → K (a.put o.dst v') w') :
    if Region.wanted o (yielded ops a.tmps) = true then Oper.wp Tryd.prog o a w K Q else E := by
  obtain ⟨i0, hi, hz0, hz1, hz2⟩ := info_parts info_probe
  obtain ⟨pv, h1, h2⟩ := hown
  obtain ⟨pv2, h3, h4⟩ := hP
  have hlt := own_block_lt h1
  rcases Nat.eq_zero_or_pos m with hm0 | hm0
  · rw [if_pos (by simp [Region.wanted, hg])]
    have h0 : ls = [] := List.eq_nil_of_length_eq_zero (by omega)
    subst h0
    subst hm0
    have hr := run_append_nothing w o.type v l.length _ base c A h1
    unfold Oper.wp execOp
    simp only [ho, resolve, invoke, builtin, Sem.run_bind, Sem.run_pure, Result.andThen_ok, List.map_toArray, List.map_cons, List.map_nil, hs, hx, hr]
    exact hK v w ⟨pv, by rw [List.append_nil]; exact h1, by rw [List.append_nil]; exact h2⟩ (World.grownBy.refl _ _) (fun g hg => .inl hg)
  · obtain ⟨ad, hA, hc⟩ := h3 (by omega)
    subst hA
    refine step_append_lies w hg s x 34 ho base 50 i0 _ 2 32 under_probes hi hz0 hz1 hz2 rfl (by decide) v l.length _ hs h1 ad m c (probeCells ls pv2) hx (by rw [probeCells_len, hm]) (fun j u hj => ?_) probeCells_one hm0 (by unfold maxLen; omega) (by omega) hbase w.heap.size rfl (fun g cap w' e1 e2 e3 _ => hK _ w' ⟨fun i => if i < l.length then pv i else pv2 (i - l.length), ?_, fun i hil => ?_⟩ e2 fun g' hg' => ?_)
    · have hj2 : j < ls.length * 2 := by
        have := (List.getElem?_eq_some_iff.1 hj).1
        rwa [probeCells_len] at this
      rw [probeCells_at hj2] at hj
      rw [← hj, ← hc (j / 2) (j % 2) (by omega) (by omega), show j / 2 * 2 + j % 2 = j by omega]
    · rw [probeCells_app, List.length_append, hm]
      exact e1
    · have hB : Below base w w' := (Below.refl _ _).grown e2 hbase (fun k hk => (hlt k hk).1)
      by_cases e : i < l.length
      · have e3 : (l ++ ls).getD i ⟨0, []⟩ = l.getD i ⟨0, []⟩ := by rw [List.getD_eq_getElem?_getD, List.getElem?_append_left e, List.getD_eq_getElem?_getD]
        rw [e3]
        simp only [if_pos e]
        exact ⟨(h2 i e).1, (h2 i e).2.keep (hB.mono hBo)⟩
      · have e3 : (l ++ ls).getD i ⟨0, []⟩ = ls.getD (i - l.length) ⟨0, []⟩ := by rw [List.getD_eq_getElem?_getD, List.getElem?_append_right (by omega), List.getD_eq_getElem?_getD]
        rw [List.length_append] at hil
        rw [e3]
        simp only [if_neg e]
        have := h4 (i - l.length) (by omega)
        exact ⟨this.1, this.2.keep (hB.mono hBo)⟩
    · have hg' : some g = some g' := hg'
      injection hg' with hg'
      subst hg'
      rcases e3 with e3 | e3
      · exact .inl e3
      · exact .inr (Nat.le_of_eq e3.symm)
/-! ### contains -/
def contB (l all : List Int) : Bool := all.all fun y => hasI l y
end Go.Proofs.YtonpemikodajdaaDoor
