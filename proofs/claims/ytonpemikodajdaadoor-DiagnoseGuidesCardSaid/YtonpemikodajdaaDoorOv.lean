/- Trees that are handed on by value: forks in a row, each list's place told; a fork appended; Next stored in place. -/
import Derived.Test.YtonpemikodajdaaDoorTl
import Derived.Deep.AppendLies
namespace Go.Proofs.YtonpemikodajdaaDoor
open Go.RowKit

/-- v holds the forks F, their lists where pv says; U i: the blocks in which the lists of fork i may lie -/
def OutV (w : World) (base : Nat) (U : Nat → Nat → Prop) (pv : PV) (v : Value) (F : List MFork) : Prop :=
  w.ownsRow base 110 3 v F.length (forkCells F pv) ∧ ∀ i, i < F.length → ForkU w (fun b => U i b ∧ some b ≠ v.ownBlock) (pv i) (F.getD i dFork)
section
variable {w w' : World} {base : Nat} {U U' : Nat → Nat → Prop} {pv : PV} {v : Value} {F : List MFork}
theorem OutV.nil (w : World) (base : Nat) (U : Nat → Nat → Prop) (pv : PV) : OutV w base U pv (.slice none 0 0) [] := ⟨World.ownsRow_nil w base 110 3, fun i hi => by simp at hi⟩
theorem OutV.lt (h : OutV w base U pv v F) : ∀ k, v.ownBlock = some k → base ≤ k ∧ k < w.heap.size := own_block_lt h.1
theorem OutV.lenV (h : OutV w base U pv v F) : ∃ A cap, v = .slice A F.length cap ∧ F.length ≤ cap := by
  rcases h.1.2 with ⟨hv, h0⟩ | ⟨g, cap, cur, hv, hb, hh, hn, r⟩
  · exact ⟨none, 0, by rw [hv, h0], by omega⟩
  · exact ⟨_, cap, hv, hn⟩
theorem OutV.keep (h : OutV w base U pv v F) (hb : Below w.heap.size w w') : OutV w' base U pv v F :=
  ⟨own_below h.1 hb fun k hk => (h.lt k hk).2, fun i hi => (h.2 i hi).keep hb.size (fun b hlt _ => hb.block b hlt) (fun _ _ hu => hu)⟩
theorem OutV.reU (h : OutV w base U pv v F) (hU : ∀ i, i < F.length → ∀ b, b < w.heap.size → U i b → U' i b) : OutV w base U' pv v F :=
  ⟨h.1, fun i hi => (h.2 i hi).keep (Nat.le_refl _) (fun _ _ _ => rfl) (fun b hlt hu => ⟨hU i hi b hlt hu.1, hu.2⟩)⟩
theorem OutV.outK (h : OutV w base U pv v F) : OutK w base (fun _ => True) v F :=
  ⟨pv, h.1, fun i hi => (h.2 i hi).keep (Nat.le_refl _) (fun _ _ _ => rfl) (fun _ _ hu => ⟨trivial, hu.2⟩)⟩
/-- the cell that holds Next of a fork -/
theorem OutV.nextCell (h : OutV w base U pv v F) {n : Nat} (hn : n < F.length) : ∃ g cap, v = .slice (some ⟨g, 0, none⟩) F.length cap ∧ base ≤ g ∧ g < w.heap.size ∧ w.cell? ⟨g, n * 3 + 1, none⟩ = some (.slice (pv n).1.1 (F.getD n dFork).next.length (pv n).1.2) := by
  have hlt := h.lt
  rcases id h.1.2 with ⟨_, h0⟩ | ⟨g, cap, cur, hv, hg, hb, r⟩
  · omega
  · subst hv
    refine ⟨g, cap, rfl, hg, (hlt g rfl).2, ?_⟩
    rw [World.ownsRow.cellAt h.1 (n * 3 + 1) (by omega), forkCells_at (by omega), show (n * 3 + 1) / 3 = n by omega, show (n * 3 + 1) % 3 = 1 by omega]
    rfl
theorem getD_setF {F : List MFork} {n i : Nat} {f : MFork} (hn : n < F.length) : (F.set n f).getD i dFork = if i = n then f else F.getD i dFork := by
  by_cases e : i = n
  · subst e
    rw [if_pos rfl, List.getD_eq_getElem?_getD, List.getElem?_set_self hn]
    rfl
  · rw [if_neg e, List.getD_eq_getElem?_getD, List.getElem?_set_ne (fun e2 => e e2.symm), List.getD_eq_getElem?_getD]
/-- Next of one fork is stored in place -/
theorem OutV.setIn (h : OutV w base U pv v F) {n nb o : Nat} (hn : n < F.length) (hq : (pv n).1.1 = some ⟨nb, 0, none⟩) (hs : IntsU w (fun b => b ≠ nb) (pv n).2.1 (F.getD n dFork).set) (hU : ∀ i, i ≠ n → ∀ b, U i b → b ≠ nb) (ho : o < (F.getD n dFork).next.length)
    (hN : OwnF w nb 3 (F.getD n dFork).next.length (fun j => .int .i64 ((F.getD n dFork).next.getD j 0))) (x : Int) :
    OutV (w.setCell ⟨nb, o, none⟩ (.int .i64 x)) base U pv v (F.set n ⟨(F.getD n dFork).test, (F.getD n dFork).next.set o x, (F.getD n dFork).set⟩) := by
  obtain ⟨b, off, hA, hbl, ⟨hUn, hown⟩, hcells⟩ := (h.2 n hn).n (by omega)
  rw [hq] at hA
  injection hA with hA
  injection hA with e1 e2
  subst e1
  subst e2
  have hkeep : ∀ k, k ≠ nb → (w.setCell ⟨nb, o, none⟩ (.int .i64 x)).heap[k]? = w.heap[k]? := fun k hk => Below.heap_setCell w ⟨nb, o, none⟩ _ k hk
  have hss : w.heap.size ≤ (w.setCell ⟨nb, o, none⟩ (.int .i64 x)).heap.size := by simp
  have hrow : forkCells (F.set n ⟨(F.getD n dFork).test, (F.getD n dFork).next.set o x, (F.getD n dFork).set⟩) pv = forkCells F pv := by
    unfold forkCells
    rw [List.length_set]
    refine List.map_congr_left fun q _ => ?_
    unfold forkCell
    rw [getD_setF hn]
    by_cases e : q / 3 = n
    · rw [if_pos e, e, List.length_set]
    · rw [if_neg e]
  refine ⟨?_, fun i hi => ?_⟩
  · rw [hrow, List.length_set]
    exact own_keep h.1 fun g hg => hkeep g fun e => hown (by rw [← e]; exact hg.symm)
  · rw [List.length_set] at hi
    rw [getD_setF hn]
    by_cases e : i = n
    · subst e
      rw [if_pos rfl]
      have hf := h.2 i hn
      refine ⟨fun _ => ⟨nb, 0, hq, by simpa using hbl, ⟨hUn, hown⟩, fun j hj => ?_⟩, by rw [List.length_set]; exact hf.nc, fun hl => ?_, hf.sc⟩
      · rw [List.length_set] at hj
        rw [Nat.zero_add, (hN.set o (.int .i64 x)).cell hj]
        by_cases e2 : j = o
        · subst e2
          rw [if_pos rfl, List.getD_eq_getElem?_getD, List.getElem?_set_self ho]
          rfl
        · rw [if_neg e2, List.getD_eq_getElem?_getD (l := List.set _ _ _), List.getElem?_set_ne (fun e3 => e2 e3.symm), List.getD_eq_getElem?_getD]
      · obtain ⟨b, off, hA, hbl2, hne, hc⟩ := hs hl
        obtain ⟨b', off', hA', _, hu', _⟩ := hf.s hl
        rw [hA] at hA'
        injection hA' with hA'
        injection hA' with e1 e2
        subst e1
        exact ⟨b, off, hA, by simpa using hbl2, hu', fun j hj => (World.cell?_of_block (a := ⟨b, off + j, none⟩) (hkeep b hne)).trans (hc j hj)⟩
    · rw [if_neg e]
      exact (h.2 i hi).keep hss (fun b _ hu => hkeep b (hU i e b hu.1)) (fun _ _ hu => hu)
set_option maxRecDepth 100000 in
/-- a fork is appended, as a step of a list of operations -/
theorem app_forkV {ops : Array Oper} {rest : List Oper} {o : Oper} {a : Act} {Q : Exit → Act → World → Prop} (w : World) (hg : o.guard = none) (s x : Operand) (ho : o.op = .call { callee := .builtin .append, args := #[s, x], argTypes := #[38, 38] }) (base : Nat) (U : Nat → Nat → Prop) (pv : PV) (v : Value) (F : List MFork)
    (hs : a.eval s = v) (hown : OutV w base U pv v F) (nb : Nat) (hx : a.eval x = .slice (some ⟨nb, 0, none⟩) 1 1) (f : MFork) (q : (Option Addr × Nat) × (Option Addr × Nat)) (hf : ForkU w (fun b => U F.length b ∧ some b ≠ v.ownBlock) q f)
    (h0 : w.cell? ⟨nb, 0, none⟩ = some (.int .i64 f.test)) (h1 : w.cell? ⟨nb, 1, none⟩ = some (.slice q.1.1 f.next.length q.1.2)) (h2 : w.cell? ⟨nb, 2, none⟩ = some (.slice q.2.1 f.set.length q.2.2))
    (hlen : F.length ≤ 1000000000) (hbase : base ≤ w.heap.size)
    (hK : ∀ g cap w', OutV w' base U (fun i => if i = F.length then q else pv i) (.slice (some ⟨g, 0, none⟩) (F.length + 1) cap) (F ++ [f]) → w.grownBy w' v.ownBlock → (v.ownBlock = some g ∨ g = w.heap.size) → g < w'.heap.size → wpList Tryd.prog ops Q rest (a.put o.dst (.slice (some ⟨g, 0, none⟩) (F.length + 1) cap)) w') :
    wpList Tryd.prog ops Q (o :: rest) a w := by
  obtain ⟨i0, hi, hz0, hz1, hz2⟩ := info_parts info_fork
  obtain ⟨hrow, hl⟩ := hown
  have hvl := own_block_lt hrow
  refine wpList_append_lies w hg s x 38 ho base 110 i0 _ 3 56 under_forks hi hz0 hz1 hz2 rfl (by decide) v F.length _ hs hrow ⟨nb, 0, none⟩ 1 1 [.int .i64 f.test, .slice q.1.1 f.next.length q.1.2, .slice q.2.1 f.set.length q.2.2] hx rfl ?_ ?_ (by omega) (by unfold maxLen; omega) (by omega) hbase _ rfl (fun g cap w' e1 e2 e3 e4 => hK g cap w' ⟨?_, fun i hil => ?_⟩ e2 e3 e4)
  · intro j u hj
    rcases j with _ | _ | _ | j
    · simp only [List.getElem?_cons_zero, Option.some.injEq] at hj; subst hj; exact h0
    · simp only [List.getElem?_cons_succ, List.getElem?_cons_zero, Option.some.injEq] at hj; subst hj; exact h1
    · simp only [List.getElem?_cons_succ, List.getElem?_cons_zero, Option.some.injEq] at hj; subst hj; exact h2
    · simp at hj
  · intro u hu
    simp only [List.mem_cons, List.not_mem_nil, or_false] at hu
    rcases hu with rfl | rfl | rfl <;> rfl
  · rw [forkCells_app]
    rw [List.length_append, List.length_singleton]
    exact e1
  · have hsz := e2.size
    have hkeep : ∀ i b, b < w.heap.size → (U i b ∧ some b ≠ v.ownBlock) → w'.heap[b]? = w.heap[b]? := fun i b hb hu => e2.block b hb hu.2
    have hU : ∀ i b, b < w.heap.size → (U i b ∧ some b ≠ v.ownBlock) → (U i b ∧ some b ≠ Value.ownBlock (.slice (some ⟨g, 0, none⟩) (F.length + 1) cap)) := fun i b hb hu => ⟨hu.1, fun e => by
      have e : some b = some g := e
      injection e with e
      subst e
      rcases e3 with e3 | e3
      · exact hu.2 e3.symm
      · omega⟩
    rw [List.length_append, List.length_singleton] at hil
    by_cases e : i = F.length
    · subst e
      have : (F ++ [f]).getD F.length dFork = f := by rw [List.getD_eq_getElem?_getD, List.getElem?_append_right (Nat.le_refl _)]; simp
      rw [this]
      simp only [if_true]
      exact hf.keep hsz (hkeep F.length) (hU F.length)
    · have hi2 : i < F.length := by omega
      have : (F ++ [f]).getD i dFork = F.getD i dFork := by rw [List.getD_eq_getElem?_getD, List.getElem?_append_left hi2, List.getD_eq_getElem?_getD]
      rw [this]
      simp only [if_neg e]
      exact (hl i hi2).keep hsz (hkeep i) (hU i)
end
end Go.Proofs.YtonpemikodajdaaDoor
