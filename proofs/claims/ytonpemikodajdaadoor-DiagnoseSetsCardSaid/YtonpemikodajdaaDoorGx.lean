/- Rows of ints of one's own; Groups. -/
import Derived.Test.YtonpemikodajdaaDoorGa
import Derived.Test.YtonpemikodajdaaDoorWa
import Derived.Deep.AppendLies
import Derived.Test.YtonpemikodajdaaDoorGb
import Derived.Test.YtonpemikodajdaaDoorCs
/- Rows of ints in memory of the call's own, each in a block of its own: a new row, a row that grows. -/
namespace Go.Proofs.YtonpemikodajdaaDoor
open Go.RowKit

def OutRR (w : World) (base : Nat) (v : Value) (LL : List (List Int)) : Prop :=
  ∃ vs : List Value, vs.length = LL.length ∧ w.ownsRow base 24 1 v LL.length vs ∧ (∀ i, i < LL.length → OutI w base (vs.getD i undef) (LL.getD i [])) ∧
    (∀ i k, i < LL.length → (vs.getD i undef).ownBlock = some k → v.ownBlock ≠ some k) ∧ ∀ i j k, i < LL.length → j < LL.length → i ≠ j → (vs.getD i undef).ownBlock = some k → (vs.getD j undef).ownBlock ≠ some k
theorem OutRR.nil (w : World) (base : Nat) : OutRR w base (.slice none 0 0) [] := ⟨[], rfl, World.ownsRow_nil w base 24 1, fun i hi => by simp at hi, fun i k hi => by simp at hi, fun i j k hi => by simp at hi⟩
theorem own_keep {w w' : World} {base e size n : Nat} {v : Value} {xs : List Value} (h : w.ownsRow base e size v n xs) (hh : ∀ g, v.ownBlock = some g → w'.heap[g]? = w.heap[g]?) : w'.ownsRow base e size v n xs := by
  obtain ⟨h1, h2⟩ := h
  refine ⟨h1, ?_⟩
  rcases h2 with h2 | ⟨g, cap, cur, hv, hg, hb, r⟩
  · exact .inl h2
  · exact .inr ⟨g, cap, cur, hv, hg, (hh g (by rw [hv]; rfl)).trans hb, r⟩
theorem OutRR.keep {w w' : World} {base : Nat} {v : Value} {LL : List (List Int)} (h : OutRR w base v LL) (hh : ∀ g, base ≤ g → g < w.heap.size → w'.heap[g]? = w.heap[g]?) : OutRR w' base v LL := by
  obtain ⟨vs, hl, hr, hi, h1, h2⟩ := h
  exact ⟨vs, hl, own_keep hr fun g hg => hh g (own_block_lt hr g hg).1 (own_block_lt hr g hg).2, fun i hlt => own_keep (hi i hlt) fun g hg => hh g (own_block_lt (hi i hlt) g hg).1 (own_block_lt (hi i hlt) g hg).2, h1, h2⟩
theorem OutRR.base {w : World} {base base' : Nat} {v : Value} {LL : List (List Int)} (h : OutRR w base v LL) (hb : base' ≤ base) : OutRR w base' v LL := by
  obtain ⟨vs, hl, hr, hi, h1, h2⟩ := h
  exact ⟨vs, hl, own_base hr hb, fun i hlt => own_base (hi i hlt) hb, h1, h2⟩
theorem OutRR.lenV {w : World} {base : Nat} {v : Value} {LL : List (List Int)} (h : OutRR w base v LL) : ∃ A cap, v = .slice A LL.length cap ∧ LL.length ≤ cap := by
  obtain ⟨vs, _, ⟨_, h1⟩, _⟩ := h
  rcases h1 with ⟨hv, h0⟩ | ⟨g, cap, cur, hv, hb, hh, hn, r⟩
  · exact ⟨none, 0, by rw [hv, h0], by omega⟩
  · exact ⟨_, cap, hv, hn⟩
theorem OutRR.lt {w : World} {base : Nat} {v : Value} {LL : List (List Int)} (h : OutRR w base v LL) : ∀ k, v.ownBlock = some k → base ≤ k ∧ k < w.heap.size := by
  obtain ⟨vs, _, h1, _⟩ := h
  exact own_block_lt h1
/-- row i: where its value lies, and what it is; how it may grow -/
theorem OutRR.at_ {w : World} {base : Nat} {v : Value} {LL : List (List Int)} (h : OutRR w base v LL) {i : Nat} (hi : i < LL.length) :
    ∃ g cap vi, v = .slice (some ⟨g, 0, none⟩) LL.length cap ∧ base ≤ g ∧ g < w.heap.size ∧ w.cell? ⟨g, i, none⟩ = some vi ∧ w.frozen? ⟨g, i, none⟩ = false ∧ OutI w base vi (LL.getD i []) ∧ vi.ownBlock ≠ some g ∧
      ∀ (w1 w2 : World) (l : List Int) (v1 : Value), w.grownBy w1 vi.ownBlock → OutI w1 base v1 l → (v1.ownBlock = vi.ownBlock ∨ v1.ownBlock = some w.heap.size) → w2.heap = w1.heap → OutRR (w2.setCell ⟨g, i, none⟩ v1) base v (LL.set i l) := by
  obtain ⟨vs, hl, hr, hin, h1, h2⟩ := h
  have hlt := own_block_lt hr
  rcases id hr.2 with ⟨_, h0⟩ | ⟨g, cap, cur, hv, hg, hb, r⟩
  · omega
  · subst hv
    have hgl := (hlt g rfl).2
    have hc : w.cell? ⟨g, i, none⟩ = some (vs.getD i undef) := by
      rw [World.ownsRow.cellAt hr i (by omega), List.getD_eq_getElem?_getD, List.getElem?_eq_getElem (by omega)]
      rfl
    refine ⟨g, cap, vs.getD i undef, rfl, hg, hgl, hc, by simp [World.frozen?, hb], hin i hi, fun e => h1 i g hi e rfl, fun w1 w2 l v1 hgr hO hblk hw2 => ?_⟩
    have hvig : (vs.getD i undef).ownBlock ≠ some g := fun e => h1 i g hi e rfl
    have hheap : ∀ b, b < w.heap.size → some b ≠ (vs.getD i undef).ownBlock → b ≠ g → (w2.setCell ⟨g, i, none⟩ v1).heap[b]? = w.heap[b]? := fun b hbl hne hbg => by
      rw [Below.heap_setCell w2 ⟨g, i, none⟩ v1 b (fun e => hbg e), hw2]
      exact hgr.block b hbl hne
    have hv1g : v1.ownBlock ≠ some g := by
      rcases hblk with e | e
      · rw [e]; exact hvig
      · rw [e]; intro e2; injection e2 with e2; omega
    have hr1 : w1.ownsRow base 24 1 (.slice (some ⟨g, 0, none⟩) LL.length cap) LL.length vs := own_keep hr fun g' hg' => by
      have : g' = g := by injection hg' with hg'; exact hg'.symm
      subst this
      exact hgr.block g' hgl (fun e => hvig e.symm)
    refine ⟨vs.set i v1, by rw [List.length_set, List.length_set, hl], ?_, fun j hj => ?_, fun j k hj hk => ?_, fun j j' k hj hj' hne hk => ?_⟩
    · have h9 := (World.ownsRow.stored hr1 i v1).1
      rw [List.length_set]
      exact own_keep h9 fun g' _ => by
        simp only [World.setCell, hw2]
    · rw [List.length_set] at hj
      by_cases e : j = i
      · subst e
        have e1 : (vs.set j v1).getD j undef = v1 := by rw [List.getD_eq_getElem?_getD, List.getElem?_set_self (by omega)]; rfl
        have e2 : (LL.set j l).getD j [] = l := by rw [List.getD_eq_getElem?_getD, List.getElem?_set_self hi]; rfl
        rw [e1, e2]
        exact own_keep hO fun g' hg' => by
          rw [Below.heap_setCell w2 ⟨g, j, none⟩ v1 g' (fun e => hv1g (by rw [hg', e])), hw2]
      · have e1 : (vs.set i v1).getD j undef = vs.getD j undef := by rw [List.getD_eq_getElem?_getD, List.getElem?_set_ne (fun e2 => e e2.symm), List.getD_eq_getElem?_getD]
        have e2 : (LL.set i l).getD j [] = LL.getD j [] := by rw [List.getD_eq_getElem?_getD, List.getElem?_set_ne (fun e2 => e e2.symm), List.getD_eq_getElem?_getD]
        rw [e1, e2]
        exact own_keep (hin j hj) fun g' hg' => hheap g' (own_block_lt (hin j hj) g' hg').2 (fun e3 => h2 j i g' hj hi e hg' e3.symm) (fun e3 => by subst e3; exact h1 j g' hj hg' rfl)
    · rw [List.length_set] at hj
      by_cases e : j = i
      · subst e
        have e1 : (vs.set j v1).getD j undef = v1 := by rw [List.getD_eq_getElem?_getD, List.getElem?_set_self (by omega)]; rfl
        rw [e1] at hk
        intro e2
        exact hv1g (hk.trans e2.symm)
      · have e1 : (vs.set i v1).getD j undef = vs.getD j undef := by rw [List.getD_eq_getElem?_getD, List.getElem?_set_ne (fun e2 => e e2.symm), List.getD_eq_getElem?_getD]
        rw [e1] at hk
        exact h1 j k hj hk
    · rw [List.length_set] at hj hj'
      have e0 : (vs.set i v1).getD i undef = v1 := by rw [List.getD_eq_getElem?_getD, List.getElem?_set_self (by omega)]; rfl
      have e1 : ∀ j, j ≠ i → (vs.set i v1).getD j undef = vs.getD j undef := fun j e => by rw [List.getD_eq_getElem?_getD, List.getElem?_set_ne (fun e2 => e e2.symm), List.getD_eq_getElem?_getD]
      have key : ∀ j, j < LL.length → j ≠ i → ∀ k, v1.ownBlock = some k → (vs.getD j undef).ownBlock ≠ some k := fun j hj hji k hk e => by
        rcases hblk with e2 | e2
        · exact h2 j i k hj hi hji e (e2.symm.trans hk)
        · have := (own_block_lt (hin j hj) k e).2
          rw [hk] at e2
          injection e2 with e2
          omega
      by_cases e : j = i
      · subst e
        rw [e0] at hk
        rw [e1 j' (fun e2 => hne e2.symm)]
        exact key j' hj' (fun e2 => hne e2.symm) k hk
      · rw [e1 j e] at hk
        by_cases e' : j' = i
        · subst e'
          rw [e0]
          exact fun e2 => key j hj e k e2 hk
        · rw [e1 j' e']
          exact h2 j j' k hj hj' hne hk
theorem OutRR.rows {w : World} {base n cap : Nat} {A : Option Addr} {LL : List (List Int)} (h : OutRR w base (.slice A n cap) LL) (hl : LL.length ≤ maxLen) : RowsA w w.heap.size A LL := by
  obtain ⟨vs, hvl, hr, hin, _, _⟩ := h
  have hlt := own_block_lt hr
  refine ⟨hl, fun i => match vs.getD i undef with | .slice A _ c => (A, c) | _ => (none, 0), fun hn => ?_, fun i hi => ?_⟩
  · rcases id hr.2 with ⟨_, h0⟩ | ⟨g, cap', cur, hv, hg, hb, r⟩
    · omega
    · injection hv with hA hn1 hn2
      subst hA; subst hn1; subst hn2
      refine ⟨g, 0, rfl, (hlt g rfl).2, fun i j hi hj => ?_⟩
      obtain rfl : j = 0 := by omega
      obtain ⟨Ai, ci, hvi, _, _⟩ := (hin i hi).reads
      rw [show 0 + i * 1 + 0 = i by omega, World.ownsRow.cellAt hr i (by omega), List.getElem?_eq_getElem (by omega)]
      have e : vs.getD i undef = vs[i] := by rw [List.getD_eq_getElem?_getD, List.getElem?_eq_getElem (by omega)]; rfl
      rw [e] at hvi
      simp only [e, hvi]
  · obtain ⟨Ai, ci, hvi, hle, hI⟩ := (hin i hi).reads
    simp only [hvi]
    exact ⟨hle, hI⟩
theorem info_row : (Tryd.prog.info? 24).map (fun i => (i.zero, i.size, i.bytes)) = some (some (.slice none 0 0), 1, 24) := by kernel_rfl
/-- a row is appended -/
theorem OutRR.grow {w w' : World} {base : Nat} {v v' vi : Value} {LL : List (List Int)} {l : List Int} (vs : List Value) (hvl : vs.length = LL.length) (hin : ∀ i, i < LL.length → OutI w base (vs.getD i undef) (LL.getD i []))
    (h1 : ∀ i k, i < LL.length → (vs.getD i undef).ownBlock = some k → v.ownBlock ≠ some k) (h2 : ∀ i j k, i < LL.length → j < LL.length → i ≠ j → (vs.getD i undef).ownBlock = some k → (vs.getD j undef).ownBlock ≠ some k)
    (hi : OutI w base vi l) (hvi : ∀ k, vi.ownBlock = some k → v.ownBlock ≠ some k) (hvj : ∀ i k, i < LL.length → (vs.getD i undef).ownBlock = some k → vi.ownBlock ≠ some k)
    (hr' : w'.ownsRow base 24 1 v' (LL.length + 1) (vs ++ [vi])) (hg : w.grownBy w' v.ownBlock) (hb : v'.ownBlock = v.ownBlock ∨ v'.ownBlock = some w.heap.size) : OutRR w' base v' (LL ++ [l]) := by
  have ev : ∀ i, i < LL.length → (vs ++ [vi]).getD i undef = vs.getD i undef := fun i hi => by rw [List.getD_eq_getElem?_getD, List.getElem?_append_left (by omega), List.getD_eq_getElem?_getD]
  have el : ∀ i, i < LL.length → (LL ++ [l]).getD i [] = LL.getD i [] := fun i hi => by rw [List.getD_eq_getElem?_getD, List.getElem?_append_left (by omega), List.getD_eq_getElem?_getD]
  have ev0 : (vs ++ [vi]).getD LL.length undef = vi := by rw [List.getD_eq_getElem?_getD, List.getElem?_append_right (by omega), hvl]; simp
  have el0 : (LL ++ [l]).getD LL.length [] = l := by rw [List.getD_eq_getElem?_getD, List.getElem?_append_right (by omega)]; simp
  have hkeep : ∀ {u : Value} {m : List Int}, OutI w base u m → (∀ k, u.ownBlock = some k → v.ownBlock ≠ some k) → OutI w' base u m := fun hu hne => own_keep hu fun g hgu => hg.block g (own_block_lt hu g hgu).2 (fun e => hne g hgu e.symm)
  have hne' : ∀ {u : Value} {m : List Int}, OutI w base u m → (∀ k, u.ownBlock = some k → v.ownBlock ≠ some k) → ∀ k, u.ownBlock = some k → v'.ownBlock ≠ some k := fun hu hne k hk e => by
    rcases hb with e2 | e2
    · exact hne k hk (e2.symm.trans e)
    · have := (own_block_lt hu k hk).2
      rw [e] at e2
      injection e2 with e2
      omega
  have hcase : ∀ i, i < (LL ++ [l]).length → i < LL.length ∨ i = LL.length := fun i hi => by
    rw [List.length_append, List.length_singleton] at hi; omega
  refine ⟨vs ++ [vi], by simp [hvl], by rw [List.length_append, List.length_singleton]; exact hr', fun i hi9 => ?_, fun i k hi9 hk => ?_, fun i j k hi9 hj9 hij hk => ?_⟩
  · rcases hcase i hi9 with e | e
    · rw [ev i e, el i e]
      exact hkeep (hin i e) (fun k => h1 i k e)
    · rw [e, ev0, el0]
      exact hkeep hi hvi
  · rcases hcase i hi9 with e | e
    · rw [ev i e] at hk
      exact hne' (hin i e) (fun k => h1 i k e) k hk
    · rw [e, ev0] at hk
      exact hne' hi hvi k hk
  · rcases hcase i hi9 with e | e
    · rw [ev i e] at hk
      rcases hcase j hj9 with e' | e'
      · rw [ev j e']
        exact h2 i j k e e' hij hk
      · rw [e', ev0]
        exact hvj i k e hk
    · rw [e, ev0] at hk
      rcases hcase j hj9 with e' | e'
      · rw [ev j e']
        exact fun e2 => hvj j k e' e2 hk
      · omega
theorem under_rows : Tryd.prog.underlying 23 = some (.slice 24) := by kernel_rfl
section
variable {ops : Array Oper} {rest : List Oper} {o : Oper} {a : Act} {Q : Exit → Act → World → Prop}
theorem app_row (w0 w : World) (hg : o.guard = none) (s x : Operand) (ho : o.op = .call { callee := .builtin .append, args := #[s, x], argTypes := #[23, 23] }) (base : Nat) (v : Value) (LL : List (List Int))
    (hs : a.eval s = v) (hown : OutRR w0 base v LL) (hb0 : Below w0.heap.size w0 w) (wb : Nat) (vi : Value) (l : List Int) (hx : a.eval x = .slice (some ⟨wb, 0, none⟩) 1 1) (hy : w.cell? ⟨wb, 0, none⟩ = some vi) (hi : OutI w w0.heap.size vi l)
    (hlen : LL.length ≤ 1000000) (hbase : base ≤ w0.heap.size)
    (hK : ∀ v' w', OutRR w' base v' (LL ++ [l]) → w.grownBy w' v.ownBlock → wpList Tryd.prog ops Q rest (a.put o.dst v') w') : wpList Tryd.prog ops Q (o :: rest) a w := by
  obtain ⟨i0, hi0, hz0, hz1, hz2⟩ := info_parts info_row
  obtain ⟨vs, hvl, hr, hin, h1, h2⟩ := hown
  have hsz := hb0.size
  have hr' : w.ownsRow base 24 1 v LL.length vs := own_keep hr fun g hg => hb0.block g (own_block_lt hr g hg).2
  obtain ⟨Ai, ci, hvi, _, _⟩ := hi.reads
  refine wpList_append_lies w hg s x 23 ho base 24 i0 (.slice none 0 0) 1 24 under_rows hi0 hz0 hz1 hz2 rfl (by decide) v LL.length _ hs hr' ⟨wb, 0, none⟩ 1 1 [vi] hx rfl ?_ ?_ (by omega) (by unfold maxLen; omega) (by omega) (by omega) w.heap.size rfl (fun g cap w' e1 e2 e3 _ => hK _ w' ?_ e2)
  · intro j u hj
    cases j with
    | zero => simp at hj; subst hj; simpa [Addr.add] using hy
    | succ j => simp at hj
  · intro u hu
    rw [List.mem_singleton] at hu
    subst hu
    rw [hvi]
    rfl
  · refine OutRR.grow vs hvl (fun i hil => own_keep (hin i hil) fun g hg => hb0.block g (own_block_lt (hin i hil) g hg).2) h1 h2 (own_base hi hbase) (fun k hk e => ?_) (fun i k hil hk e => ?_) e1 e2 (e3.imp (fun e => e.symm) (fun e => by rw [e]; rfl))
    · have := (own_block_lt hi k hk).1
      have := (own_block_lt hr k e).2
      omega
    · have := (own_block_lt hi k e).1
      have := (own_block_lt (hin i hil) k hk).2
      omega
/-- append of one int; where the new row lies -/
theorem app_int_lies (w : World) (hg : o.guard = none) (s x : Operand) (ho : o.op = .call { callee := .builtin .append, args := #[s, x], argTypes := #[24, 24] }) (base : Nat) (v : Value) (l : List Int)
    (hs : a.eval s = v) (hown : OutI w base v l) (wb : Nat) (y : Int) (hx : a.eval x = .slice (some ⟨wb, 0, none⟩) 1 1) (hy : w.cell? ⟨wb, 0, none⟩ = some (.int .i64 y)) (hlen : l.length ≤ 1000000) (hbase : base ≤ w.heap.size)
    (hK : ∀ v' w', OutI w' base v' (l ++ [y]) → w.grownBy w' v.ownBlock → (v'.ownBlock = v.ownBlock ∨ v'.ownBlock = some w.heap.size) → wpList Tryd.prog ops Q rest (a.put o.dst v') w') : wpList Tryd.prog ops Q (o :: rest) a w := by
  obtain ⟨i0, hi, hz0, hz1, hz2⟩ := info_parts info_int
  refine wpList_append_lies w hg s x 24 ho base 3 i0 (.int .i64 0) 1 8 under_ints hi hz0 hz1 hz2 rfl (by decide) v l.length _ hs hown ⟨wb, 0, none⟩ 1 1 [.int .i64 y] hx rfl ?_ ?_ (by omega) (by unfold maxLen; omega) (by omega) hbase w.heap.size rfl (fun g cap w' h1 h2 h3 _ => hK _ w' ?_ h2 (h3.imp (fun e => e.symm) (fun e => by rw [e]; rfl)))
  · intro j u hj
    cases j with
    | zero => simp at hj; subst hj; simpa [Addr.add] using hy
    | succ j => simp at hj
  · intro u hu; simp at hu; subst hu; rfl
  · unfold OutI
    rw [List.length_append, List.map_append]
    exact h1
end
end Go.Proofs.YtonpemikodajdaaDoor

/- Walk: diagnose.Groups. -/
namespace Go.Proofs.YtonpemikodajdaaDoor
open Go.RowKit

theorem pow12' {n m : Nat} (hn : n ≤ 12) (hm : m < 2 ^ n) : m < 4096 := Nat.lt_of_lt_of_le hm (Nat.pow_le_pow_right (n := 2) (by omega) hn)
set_option maxRecDepth 100000 in
set_option maxHeartbeats 8000000 in
theorem groups25_any (A1 A2 : Option Addr) (c1 c2 : Nat) (c : MCase) (w : World) (h : CaseA w w.heap.size A1 A2 c) (hT : TabW w) :
    Calls Tryd.prog 25 #[.agg #[.slice A1 c.weights.length c1, .slice A2 c.tests.length c2]] w fun e w' => (∃ v, e = .returned (.tuple #[v, .int .i64 (checkC c)]) ∧ OutRR w' w.heap.size v (if caseB c = true then (groupsS c (-1) c.weights.length).map bitsI else [])) ∧ Below w.heap.size w w' := by
  have hb1 : Below w.heap.size w (w.alloc (.cells #[.slice A1 c.weights.length c1, .slice A2 c.tests.length c2] 36)) := (Below.refl _ _).alloc (Nat.le_refl _) _
  have hsz : (w.alloc (.cells #[.slice A1 c.weights.length c1, .slice A2 c.tests.length c2] 36)).heap.size = w.heap.size + 1 := by simp
  have n0 := newcell w #[.slice A1 c.weights.length c1, .slice A2 c.tests.length c2] 36 0
  have n1 := newcell w #[.slice A1 c.weights.length c1, .slice A2 c.tests.length c2] 36 1
  simp only [List.getElem?_toArray, List.getElem?_cons_succ, List.getElem?_cons_zero] at n0 n1
  obtain ⟨E, hE⟩ : ∃ E, checkC c = E := ⟨_, rfl⟩
  have HCK := Lib.hid (check_any A1 A2 c1 c2 c (w.alloc (.cells #[.slice A1 c.weights.length c1, .slice A2 c.tests.length c2] 36)) ((h.keep hb1).more hb1.size) hE)
  rw [hE]
  have HT := Lib.hid hT
  clear hT
  rcases hv : caseB c
  · have hEv : E = 101 := by rw [← hE, checkC_no hv]
    subst hEv
    clear hE hv
    go_enter Tryd.func25, Tryd.ntmps25
    go_wp2_with (go_at_call 27; refine HCK.out.mono ?_; rintro e w2 ⟨rfl, hb2⟩)
    go_ret2
    exact ⟨⟨_, rfl, OutRR.nil _ _⟩, hb1.trans (hb2.mono (by omega))⟩
  · have hEv : E = 0 := by rw [← hE, checkC_yes hv]
    subst hEv
    have hn12 := (caseOk hv).n2
    have HN : Hid (∀ wx, Below (w.heap.size + 1) (w.alloc (.cells #[.slice A1 c.weights.length c1, .slice A2 c.tests.length c2] 36)) wx → wx.cell? ⟨w.heap.size, 0, none⟩ = some (.slice A1 c.weights.length c1) ∧ wx.cell? ⟨w.heap.size, 1, none⟩ = some (.slice A2 c.tests.length c2)) := fun wx hb => ⟨(bcell hb _ _ (by omega)).trans n0, (bcell hb _ _ (by omega)).trans n1⟩
    have HGR : Hid (∀ (wx : World), Below (w.heap.size + 1) (w.alloc (.cells #[.slice A1 c.weights.length c1, .slice A2 c.tests.length c2] 36)) wx → Calls Tryd.prog 64 #[.agg #[.slice A1 c.weights.length c1, .slice A2 c.tests.length c2], .int .i64 (-1)] wx fun e w' => (∃ v, e = .returned v ∧ OutU w' wx.heap.size v (groupsS c (-1) c.weights.length)) ∧ Below wx.heap.size wx w') := fun wx hb => groups_any A1 A2 c1 c2 c (-1) wx ((h.keep (hb1.trans (hb.mono (by omega)))).more (by have := hb.size; omega)) (HT.out.keep (hb1.trans (hb.mono (by omega)))) hv
    have hle : (groupsS c (-1) c.weights.length).length ≤ 1000000 := Nat.le_trans (groupsS_len _ _ _) (by omega)
    have HLT : Hid (∀ j, j < (groupsS c (-1) c.weights.length).length → (groupsS c (-1) c.weights.length).getD j 0 < 4096) := fun j hj => pow12' hn12 (groupsS_at (Nat.le_refl _) hj)
    clear hE hv
    generalize groupsS c (-1) c.weights.length = L at *
    go_enter Tryd.func25, Tryd.ntmps25
    go_wp2_with (first | (go_at_call 27; refine HCK.out.mono ?_; rintro e w2 ⟨rfl, hb2⟩; have HB2 : Hid (Below (w.heap.size + 1) (w.alloc (.cells #[.slice A1 c.weights.length c1, .slice A2 c.tests.length c2] 36)) w2) := hb2.mono (by omega); obtain ⟨p0, p1⟩ := HN.out w2 HB2.out; clear hb2) | (go_at_call 64; refine (HGR.out _ HB2.out).mono ?_; rintro e w3 ⟨⟨v3, rfl, hO3⟩, hb3⟩; have HO3 := Lib.hid hO3; obtain ⟨Aa, ca, hva, _⟩ := HO3.out.lenV; subst hva; have HB3 : Hid (Below (w.heap.size + 1) (w.alloc (.cells #[.slice A1 c.weights.length c1, .slice A2 c.tests.length c2] 36)) w3) := HB2.out.trans (hb3.mono (by have := HB2.out.size; omega)); clear hO3 hb3))
    clear n0 n1 p0 p1
    go_loopw [15, 2] (fun vi v2 wr => ∃ k : Nat, k ≤ L.length ∧ vi = .int .i64 k ∧ Hid (OutRR wr w3.heap.size v2 ((L.take k).map bitsI)) ∧ Hid (Below w3.heap.size w3 wr)) (fun vi _ _ => L.length - (intOf vi).toNat)
    case atStart => exact ⟨0, Nat.zero_le _, rfl, OutRR.nil _ _, Below.refl _ _⟩
    case round =>
      obtain ⟨k, hk, rfl, HOI, HB⟩ := hrel
      have HB4 : Hid (Below (w.heap.size + 1) (w.alloc (.cells #[.slice A1 c.weights.length c1, .slice A2 c.tests.length c2] 36)) wr) := HB3.out.trans (HB.out.mono (by have := HB3.out.size; omega))
      have hs3 := HB3.out.size
      rw [hsz] at hs3
      have hsr := HB.out.size
      by_cases hlt : k < L.length
      rotate_left
      · obtain rfl : k = L.length := by omega
        go_wp2_with fail
        go_ret2
        refine ⟨⟨u2, rfl, ?_⟩, hb1.trans (HB4.out.mono (by omega))⟩
        have h9 := HOI.out
        rw [List.take_length] at h9
        exact h9.base (by omega)
      · obtain ⟨b, off, rfl, _, m0⟩ := (HO3.out.keep fun g _ hg => HB.out.block g hg : OutU wr _ _ L).masks hle |>.at_ hlt
        have hm4 := HLT.out k hlt
        have hm4 : L[k] < 4096 := by rw [List.getD_eq_getElem?_getD, List.getElem?_eq_getElem hlt] at hm4; exact hm4
        have hgd : L.getD k 0 = L[k] := by rw [List.getD_eq_getElem?_getD, List.getElem?_eq_getElem hlt]; rfl
        rw [hgd] at m0
        have HTK : Hid ((L.take (k + 1)).map bitsI = (L.take k).map bitsI ++ [bitsI L[k]]) := by
          show _ = _
          rw [List.take_add_one, List.getElem?_eq_getElem hlt, List.map_append]
          rfl
        have hLk : ((L.take k).map bitsI).length ≤ 1000000 := by rw [List.length_map, List.length_take]; omega
        obtain ⟨x, hx⟩ : ∃ x, L[k] = x := ⟨_, rfl⟩
        rw [hx] at m0 hm4
        rw [hx] at HTK
        have HC := Lib.hid (list_any x wr hm4 (HT.out.keep (hb1.trans (HB4.out.mono (by omega)))))
        have HVL := Lib.hid HOI.out.lt
        clear hx hgd
        go_wp2_with (first | (go_at_call 65; refine HC.out.mono ?_; rintro e w5 ⟨v5, rfl, hO5, hb5⟩; obtain ⟨Av, cv, hv5, _, _⟩ := hO5.lenV; subst hv5; have HO5 := Lib.hid hO5; have HB5 := Lib.hid (hb5.alloc hb5.size (Obj.cells #[.slice Av (bitsI x).length cv] 24)); have HO6 : Hid (OutI (w5.alloc (.cells #[.slice Av (bitsI x).length cv] 24)) wr.heap.size (.slice Av (bitsI x).length cv) (bitsI x)) := own_keep hO5 (fun g hg => Below.heap_alloc w5 _ g (own_block_lt hO5 g hg).2); have HQ0 := Lib.hid (newcell w5 #[.slice Av (bitsI x).length cv] 24 0); clear hO5 hb5) | (at_builtin; refine app_row wr _ rfl _ _ rfl w3.heap.size u2 _ rfl HOI.out HB5.out w5.heap.size _ _ rfl HQ0.out HO6.out hLk hsr ?_; intro v7 w7 hO7 hg7; have HO7 := Lib.hid hO7; have HG7 := Lib.hid hg7; clear hO7 hg7))
        go_roundw
        case rel => exact ⟨k + 1, by omega, by go_num, by rw [HTK.out]; exact HO7.out, (HB.out.trans (HB5.out.mono hsr)).grown HG7.out (Nat.le_trans hsr HB5.out.size) (fun g hg => (HVL.out g hg).1)⟩
        case measure => simp [intOf]; omega
end Go.Proofs.YtonpemikodajdaaDoor
