/- Forks in memory of the call's own. -/
import Derived.Test.YtonpemikodajdaaDoorGd3
import Derived.Deep.AppendLies
namespace Go.Proofs.YtonpemikodajdaaDoor
open Go.RowKit

/-- a list of ints in a block that U allows -/
def IntsU (w : World) (U : Nat → Prop) (A : Option Addr) (l : List Int) : Prop :=
  0 < l.length → ∃ b off, A = some ⟨b, off, none⟩ ∧ b < w.heap.size ∧ U b ∧ ∀ i, i < l.length → w.cell? ⟨b, off + i, none⟩ = some (.int .i64 (l.getD i 0))
theorem IntsU.keep {w w' : World} {U U' : Nat → Prop} {A : Option Addr} {l : List Int} (h : IntsU w U A l) (hs : w.heap.size ≤ w'.heap.size) (hk : ∀ b, b < w.heap.size → U b → w'.heap[b]? = w.heap[b]?) (hU : ∀ b, b < w.heap.size → U b → U' b) : IntsU w' U' A l := fun hn => by
  obtain ⟨b, off, hA, hb, hu, hc⟩ := h hn
  exact ⟨b, off, hA, by omega, hU b hb hu, fun i hi => (World.cell?_of_block (w := w) (a := ⟨b, off + i, none⟩) (hk b hb hu)).trans (hc i hi)⟩
theorem IntsU.ints {w : World} {U : Nat → Prop} {A : Option Addr} {l : List Int} (h : IntsU w U A l) (hl : l.length ≤ maxLen) : IntsA w w.heap.size A l := ⟨hl, fun hn => by
  obtain ⟨b, off, hA, hb, _, hc⟩ := h hn
  exact ⟨b, off, hA, hb, hc⟩⟩
def dFork : MFork := ⟨0, [], []⟩
abbrev PV := Nat → (Option Addr × Nat) × (Option Addr × Nat)
def forkCell (F : List MFork) (pv : PV) (i j : Nat) : Value :=
  if j = 0 then .int .i64 (F.getD i dFork).test else if j = 1 then .slice (pv i).1.1 (F.getD i dFork).next.length (pv i).1.2 else .slice (pv i).2.1 (F.getD i dFork).set.length (pv i).2.2
def forkCells (F : List MFork) (pv : PV) : List Value := (List.range (F.length * 3)).map fun p => forkCell F pv (p / 3) (p % 3)
theorem forkCells_len (F : List MFork) (pv : PV) : (forkCells F pv).length = F.length * 3 := by unfold forkCells; simp
theorem forkCells_at {F : List MFork} {pv : PV} {p : Nat} (hp : p < F.length * 3) : (forkCells F pv)[p]? = some (forkCell F pv (p / 3) (p % 3)) := by
  unfold forkCells
  rw [List.getElem?_map, List.getElem?_range hp]; rfl
/-- one fork's lists -/
structure ForkU (w : World) (U : Nat → Prop) (q : (Option Addr × Nat) × (Option Addr × Nat)) (f : MFork) : Prop where
  n : IntsU w U q.1.1 f.next
  nc : f.next.length ≤ q.1.2
  s : IntsU w U q.2.1 f.set
  sc : f.set.length ≤ q.2.2
theorem ForkU.keep {w w' : World} {U U' : Nat → Prop} {q : (Option Addr × Nat) × (Option Addr × Nat)} {f : MFork} (h : ForkU w U q f) (hs : w.heap.size ≤ w'.heap.size) (hk : ∀ b, b < w.heap.size → U b → w'.heap[b]? = w.heap[b]?) (hU : ∀ b, b < w.heap.size → U b → U' b) : ForkU w' U' q f :=
  ⟨h.n.keep hs hk hU, h.nc, h.s.keep hs hk hU, h.sc⟩
/-- v holds the forks F; their lists lie neither in v's block nor in one that U0 bars -/
def OutK (w : World) (base : Nat) (U0 : Nat → Prop) (v : Value) (F : List MFork) : Prop :=
  ∃ pv : PV, w.ownsRow base 110 3 v F.length (forkCells F pv) ∧ ∀ i, i < F.length → ForkU w (fun b => U0 b ∧ some b ≠ v.ownBlock) (pv i) (F.getD i dFork)
theorem OutK.nil (w : World) (base : Nat) (U0 : Nat → Prop) : OutK w base U0 (.slice none 0 0) [] := ⟨fun _ => ((none, 0), (none, 0)), World.ownsRow_nil w base 110 3, fun i hi => by simp at hi⟩
theorem OutK.lt {w : World} {base : Nat} {U0 : Nat → Prop} {v : Value} {F : List MFork} (h : OutK w base U0 v F) : ∀ k, v.ownBlock = some k → base ≤ k ∧ k < w.heap.size := by
  obtain ⟨pv, h1, _⟩ := h
  exact own_block_lt h1
/-- nothing of it was touched -/
theorem OutK.keep {w w' : World} {base : Nat} {U0 : Nat → Prop} {v : Value} {F : List MFork} (h : OutK w base U0 v F) (hs : w.heap.size ≤ w'.heap.size) (hk : ∀ b, b < w.heap.size → U0 b → w'.heap[b]? = w.heap[b]?) (hv : ∀ k, v.ownBlock = some k → U0 k) : OutK w' base U0 v F := by
  have hlt := h.lt
  obtain ⟨pv, h1, h2⟩ := h
  refine ⟨pv, ?_, fun i hi => (h2 i hi).keep hs (fun b hb hu => hk b hb hu.1) (fun b _ hu => hu)⟩
  obtain ⟨e1, e2⟩ := h1
  refine ⟨e1, ?_⟩
  rcases e2 with e2 | ⟨g, cap, cur, hg, hb, hh, r⟩
  · exact .inl e2
  · have hob : v.ownBlock = some g := by rw [hg]; rfl
    exact .inr ⟨g, cap, cur, hg, hb, by rw [hk g (hlt g hob).2 (hv g hob)]; exact hh, r⟩
theorem OutK.lenV {w : World} {base : Nat} {U0 : Nat → Prop} {v : Value} {F : List MFork} (h : OutK w base U0 v F) : ∃ A cap, v = .slice A F.length cap ∧ F.length ≤ cap := by
  obtain ⟨pv, ⟨_, h1⟩, _⟩ := h
  rcases h1 with ⟨hv, h0⟩ | ⟨g, cap, cur, hv, hb, hh, hn, r⟩
  · exact ⟨none, 0, by rw [hv, h0], by omega⟩
  · exact ⟨_, cap, hv, hn⟩
theorem forkCell_one (F : List MFork) (pv : PV) (i j : Nat) : (forkCell F pv i j).oneCell' = true := by
  unfold forkCell
  repeat' split
  all_goals rfl
theorem info_fork : (Tryd.prog.info? 110).map (fun i => (i.zero, i.size, i.bytes)) = some (some (.agg #[.int .i64 0, .slice none 0 0, .slice none 0 0]), 3, 56) := by kernel_rfl
theorem under_forks : Tryd.prog.underlying 38 = some (.slice 110) := by kernel_rfl
theorem forkCells_app (F : List MFork) (f : MFork) (pv : PV) (q : (Option Addr × Nat) × (Option Addr × Nat)) :
    forkCells (F ++ [f]) (fun i => if i = F.length then q else pv i) = forkCells F pv ++ [.int .i64 f.test, .slice q.1.1 f.next.length q.1.2, .slice q.2.1 f.set.length q.2.2] := by
  apply List.ext_getElem?
  intro p
  by_cases hp : p < F.length * 3
  · rw [List.getElem?_append_left (by rw [forkCells_len]; exact hp), forkCells_at hp, forkCells_at (by rw [List.length_append, List.length_singleton]; omega)]
    have hi : p / 3 < F.length := by omega
    have e : (F ++ [f]).getD (p / 3) dFork = F.getD (p / 3) dFork := by rw [List.getD_eq_getElem?_getD, List.getElem?_append_left hi, List.getD_eq_getElem?_getD]
    have hq : (fun i => if i = F.length then q else pv i) (p / 3) = pv (p / 3) := if_neg (show ¬ p / 3 = F.length by omega)
    unfold forkCell
    rw [e, hq]
  · rw [List.getElem?_append_right (by rw [forkCells_len]; omega), forkCells_len]
    by_cases hp2 : p < (F.length + 1) * 3
    · rw [forkCells_at (by rw [List.length_append, List.length_singleton]; exact hp2)]
      have hi : p / 3 = F.length := by omega
      have e : (F ++ [f]).getD (p / 3) dFork = f := by rw [hi, List.getD_eq_getElem?_getD, List.getElem?_append_right (Nat.le_refl _)]; simp
      have hq : (fun i => if i = F.length then q else pv i) (p / 3) = q := if_pos hi
      unfold forkCell
      rw [e, hq]
      rcases (show p % 3 = 0 ∨ p % 3 = 1 ∨ p % 3 = 2 by omega) with h | h | h
      · rw [h, show p - F.length * 3 = 0 by omega]; rfl
      · rw [h, show p - F.length * 3 = 1 by omega]; rfl
      · rw [h, show p - F.length * 3 = 2 by omega]; rfl
    · rw [List.getElem?_eq_none (by rw [forkCells_len, List.length_append, List.length_singleton]; omega), List.getElem?_eq_none (by simp; omega)]
set_option maxRecDepth 100000 in
theorem step_app_fork {ops : Array Oper} {o : Oper} {a : Act} {K : Act → World → Prop} {Q : Exit → Act → World → Prop} {E : Prop} (w : World) (hg : o.guard = none) (s x : Operand) (ho : o.op = .call { callee := .builtin .append, args := #[s, x], argTypes := #[38, 38] }) (base : Nat) (U0 : Nat → Prop) (v : Value) (F : List MFork)
    (hs : a.eval s = v) (hown : OutK w base U0 v F) (nb : Nat) (hx : a.eval x = .slice (some ⟨nb, 0, none⟩) 1 1) (f : MFork) (q : (Option Addr × Nat) × (Option Addr × Nat)) (hf : ForkU w (fun b => U0 b ∧ some b ≠ v.ownBlock) q f)
    (h0 : w.cell? ⟨nb, 0, none⟩ = some (.int .i64 f.test)) (h1 : w.cell? ⟨nb, 1, none⟩ = some (.slice q.1.1 f.next.length q.1.2)) (h2 : w.cell? ⟨nb, 2, none⟩ = some (.slice q.2.1 f.set.length q.2.2))
    (hlen : F.length ≤ 1000000000) (hbase : base ≤ w.heap.size) (H : Nat) (hH : w.heap.size = H)
    (hK : ∀ g cap w', OutK w' base U0 (.slice (some ⟨g, 0, none⟩) (F.length + 1) cap) (F ++ [f]) → w.grownBy w' v.ownBlock → (v.ownBlock = some g ∨ g = H) → g < w'.heap.size → K (a.put o.dst (.slice (some ⟨g, 0, none⟩) (F.length + 1) cap)) w') :
    if Region.wanted o (yielded ops a.tmps) = true then Oper.wp Tryd.prog o a w K Q else E := by
  obtain ⟨i0, hi, hz0, hz1, hz2⟩ := info_parts info_fork
  obtain ⟨pv, hrow, hl⟩ := hown
  have hvl := own_block_lt hrow
  refine step_append_lies w hg s x 38 ho base 110 i0 _ 3 56 under_forks hi hz0 hz1 hz2 rfl (by decide) v F.length _ hs hrow ⟨nb, 0, none⟩ 1 1 [.int .i64 f.test, .slice q.1.1 f.next.length q.1.2, .slice q.2.1 f.set.length q.2.2] hx rfl ?_ ?_ (by omega) (by unfold maxLen; omega) (by omega) hbase H hH (fun g cap w' e1 e2 e3 e4 => hK g cap w' ⟨fun i => if i = F.length then q else pv i, ?_, fun i hil => ?_⟩ e2 e3 e4)
  · intro j u hj
    rcases j with _ | _ | _ | j
    · simp only [List.getElem?_cons_zero, Option.some.injEq] at hj; subst hj; exact h0
    · simp only [List.getElem?_cons_succ, List.getElem?_cons_zero, Option.some.injEq] at hj; subst hj; exact h1
    · simp only [List.getElem?_cons_succ, List.getElem?_cons_zero, Option.some.injEq] at hj; subst hj; exact h2
    · simp at hj
  · intro u hu
    simp only [List.mem_cons, List.not_mem_nil, or_false] at hu
    rcases hu with rfl | rfl | rfl <;> rfl
  · rw [forkCells_app]
    rw [List.length_append, List.length_singleton]
    exact e1
  · have hsz := e2.size
    have hkeep : ∀ b, b < w.heap.size → (U0 b ∧ some b ≠ v.ownBlock) → w'.heap[b]? = w.heap[b]? := fun b hb hu => e2.block b hb hu.2
    have hU : ∀ b, b < w.heap.size → (U0 b ∧ some b ≠ v.ownBlock) → (U0 b ∧ some b ≠ Value.ownBlock (.slice (some ⟨g, 0, none⟩) (F.length + 1) cap)) := fun b hb hu => ⟨hu.1, fun e => by
      have e : some b = some g := e
      injection e with e
      subst e
      rcases e3 with e3 | e3
      · exact hu.2 e3.symm
      · omega⟩
    rw [List.length_append, List.length_singleton] at hil
    by_cases e : i = F.length
    · subst e
      have : (F ++ [f]).getD F.length dFork = f := by rw [List.getD_eq_getElem?_getD, List.getElem?_append_right (Nat.le_refl _)]; simp
      rw [this]
      simp only [if_true]
      exact hf.keep hsz hkeep hU
    · have hi2 : i < F.length := by omega
      have : (F ++ [f]).getD i dFork = F.getD i dFork := by rw [List.getD_eq_getElem?_getD, List.getElem?_append_left hi2, List.getD_eq_getElem?_getD]
      rw [this]
      simp only [if_neg e]
      exact (hl i hi2).keep hsz hkeep hU
/-- the field Next of one fork is stored -/
theorem OutK.setNext {w : World} {base : Nat} {U0 : Nat → Prop} {g n cap : Nat} {F : List MFork} (h : OutK w base U0 (.slice (some ⟨g, 0, none⟩) n cap) F) {i : Nat} (hi : i < F.length) (A : Option Addr) (nc : Nat) (l : List Int) (hl : IntsU w (fun b => U0 b ∧ some b ≠ some g) A l) (hc : l.length ≤ nc) :
    (∃ u, w.cell? ⟨g, i * 3 + 1, none⟩ = some u) ∧ w.frozen? ⟨g, i * 3 + 1, none⟩ = false ∧ OutK (w.setCell ⟨g, i * 3 + 1, none⟩ (.slice A l.length nc)) base U0 (.slice (some ⟨g, 0, none⟩) n cap) (F.set i ⟨(F.getD i dFork).test, l, (F.getD i dFork).set⟩) := by
  obtain ⟨pv, ⟨e1, e2⟩, h2⟩ := h
  rcases e2 with ⟨e2, _⟩ | ⟨g', cap', cur, hg, hb, hh, hn, hm, hsz, htk⟩
  · cases e2
  · injection hg with hg hn1 hn2
    injection hg with hg
    injection hg with hg
    subst hg
    have hcur : i * 3 + 1 < cur.size := by omega
    refine ⟨⟨_, (cell_of_row w g _ cur 110 (0, 0) hh).trans (Array.getElem?_eq_getElem hcur)⟩, by simp [World.frozen?, hh], ⟨fun j => if j = i then ((A, nc), (pv i).2) else pv j, ⟨by rw [forkCells_len, List.length_set], .inr ⟨g, cap', cur.setIfInBounds (i * 3 + 1) (.slice A l.length nc), by rw [List.length_set, hn1, hn2], hb, ?_, by rw [List.length_set]; exact hn, hm, by rw [Array.size_setIfInBounds]; exact hsz, ?_⟩⟩, fun j hj => ?_⟩⟩
    · simp only [World.setCell]
      rw [Array.getElem?_modify, if_pos rfl, hh]; rfl
    · apply List.ext_getElem?
      intro p
      rw [List.getElem?_take, Array.getElem?_toList, Array.getElem?_setIfInBounds, List.length_set]
      have hold : (cur.toList.take (F.length * 3))[p]? = (forkCells F pv)[p]? := by rw [htk]
      rw [List.getElem?_take, Array.getElem?_toList] at hold
      by_cases hp : p < F.length * 3
      · rw [if_pos hp] at hold ⊢
        rw [forkCells_at (by rw [List.length_set]; exact hp)]
        rw [forkCells_at hp] at hold
        by_cases hpi : p / 3 = i
        · have e : (F.set i ⟨(F.getD i dFork).test, l, (F.getD i dFork).set⟩).getD (p / 3) dFork = ⟨(F.getD i dFork).test, l, (F.getD i dFork).set⟩ := by rw [hpi, List.getD_eq_getElem?_getD, List.getElem?_set_self hi]; rfl
          have hq : (fun j => if j = i then ((A, nc), (pv i).2) else pv j) (p / 3) = ((A, nc), (pv i).2) := if_pos hpi
          unfold forkCell at hold ⊢
          rw [e, hq]
          rw [hpi] at hold
          rcases (show p % 3 = 0 ∨ p % 3 = 1 ∨ p % 3 = 2 by omega) with h | h | h
          · rw [h] at hold ⊢
            rw [if_neg (show ¬ i * 3 + 1 = p by omega), hold]; rfl
          · rw [h]
            rw [if_pos (show i * 3 + 1 = p by omega), if_pos hcur]; rfl
          · rw [h] at hold ⊢
            rw [if_neg (show ¬ i * 3 + 1 = p by omega), hold]; rfl
        · have e : (F.set i ⟨(F.getD i dFork).test, l, (F.getD i dFork).set⟩).getD (p / 3) dFork = F.getD (p / 3) dFork := by
            rw [List.getD_eq_getElem?_getD, List.getElem?_set_ne (fun e => hpi e.symm), List.getD_eq_getElem?_getD]
          have hq : (fun j => if j = i then ((A, nc), (pv i).2) else pv j) (p / 3) = pv (p / 3) := if_neg hpi
          unfold forkCell at hold ⊢
          rw [e, hq, if_neg (show ¬ i * 3 + 1 = p by omega), hold]
      · rw [if_neg hp, List.getElem?_eq_none (by rw [forkCells_len, List.length_set]; omega)]
    · rw [List.length_set] at hj
      have hkeep : ∀ b, b < w.heap.size → (U0 b ∧ some b ≠ some g) → (w.setCell ⟨g, i * 3 + 1, none⟩ (.slice A l.length nc)).heap[b]? = w.heap[b]? := fun b _ hu => Below.heap_setCell w ⟨g, i * 3 + 1, none⟩ _ b (fun e => hu.2 (by rw [e]))
      have hss : w.heap.size ≤ (w.setCell ⟨g, i * 3 + 1, none⟩ (.slice A l.length nc)).heap.size := by simp
      by_cases e : j = i
      · subst e
        have e : (F.set j ⟨(F.getD j dFork).test, l, (F.getD j dFork).set⟩).getD j dFork = ⟨(F.getD j dFork).test, l, (F.getD j dFork).set⟩ := by rw [List.getD_eq_getElem?_getD, List.getElem?_set_self hi]; rfl
        rw [e]
        simp only [if_true]
        have ho := h2 j hi
        exact ⟨hl.keep hss hkeep (fun _ _ h => h), hc, ho.s.keep hss hkeep (fun _ _ h => h), ho.sc⟩
      · have e' : (F.set i ⟨(F.getD i dFork).test, l, (F.getD i dFork).set⟩).getD j dFork = F.getD j dFork := by
          rw [List.getD_eq_getElem?_getD, List.getElem?_set_ne (fun e2 => e e2.symm), List.getD_eq_getElem?_getD]
        rw [e']
        simp only [if_neg e]
        exact (h2 j hj).keep hss hkeep (fun _ _ h => h)
end Go.Proofs.YtonpemikodajdaaDoor
