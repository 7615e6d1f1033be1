/- Operations as the walks of this seat meet them: make of ints, append of one int and of a list; slices.Clone of ints. -/
import Derived.Test.YtonpemikodajdaaDoorProg
import Derived.Test.YtonpemikodajdaaDoorOwn
namespace Go.Proofs.YtonpemikodajdaaDoor
open Go.RowKit

theorem info_int : (Tryd.prog.info? 3).map (fun i => (i.zero, i.size, i.bytes)) = some (some (.int .i64 0), 1, 8) := by kernel_rfl
theorem under_ints : Tryd.prog.underlying 24 = some (.slice 3) := by kernel_rfl

theorem made_get {z : Value} {n j : Nat} (hj : j < n) : (madeCells #[z] (n * 1)).toList.getD j undef = z := by
  rw [List.getD_eq_getElem?_getD, Array.getElem?_toList]
  simp [madeCells, hj, Nat.mod_one]

section
variable {ops : Array Oper} {rest : List Oper} {o : Oper} {a : Act} {Q : Exit → Act → World → Prop}
theorem mk_ints (w : World) (hg : o.guard = none) (l c : Operand) (hop : o.op = .makeSlice 24 l c) (n : Nat) (hl : a.eval l = .int .i64 (n : Int)) (hc : a.eval c = .int .i64 (n : Int)) (hn : n ≤ 1000000)
    (hK : ∀ w', OwnF w' w.heap.size 3 n (fun _ => .int .i64 0) → Below w.heap.size w w' → wpList Tryd.prog ops Q rest (a.put o.dst (.slice (some ⟨w.heap.size, 0, none⟩) n n)) w') : wpList Tryd.prog ops Q (o :: rest) a w := by
  obtain ⟨i0, hi, hz0, hz1, hz2⟩ := info_parts info_int
  refine wpList_make_full w hg l c 24 hop w.heap.size 3 i0 (.int .i64 0) 1 under_ints hi hz0 hz1 .i64 .i64 _ _ n hl hc rfl rfl (by rw [hz2]; omega) (by unfold maxLen; omega) (Nat.le_refl _) (fun w' h1 h2 => hK w' ?_ ?_)
  · exact (OwnF.of_row h1 rfl).congr fun j hj => made_get hj
  · exact (Below.refl _ _).grown h2 (Nat.le_refl _) (fun k hk => by cases hk)
theorem app_int (w : World) (hg : o.guard = none) (s x : Operand) (ho : o.op = .call { callee := .builtin .append, args := #[s, x], argTypes := #[24, 24] }) (base : Nat) (v : Value) (l : List Int)
    (hs : a.eval s = v) (hown : OutI w base v l) (wb : Nat) (y : Int) (hx : a.eval x = .slice (some ⟨wb, 0, none⟩) 1 1) (hy : w.cell? ⟨wb, 0, none⟩ = some (.int .i64 y)) (hlen : l.length ≤ 1000000) (hbase : base ≤ w.heap.size)
    (hK : ∀ v' w', OutI w' base v' (l ++ [y]) → w.grownBy w' v.ownBlock → wpList Tryd.prog ops Q rest (a.put o.dst v') w') : wpList Tryd.prog ops Q (o :: rest) a w := by
  obtain ⟨i0, hi, hz0, hz1, hz2⟩ := info_parts info_int
  refine wpList_append_own w hg s x 24 ho base 3 i0 (.int .i64 0) 1 8 under_ints hi hz0 hz1 hz2 rfl (by decide) v l.length _ hs hown ⟨wb, 0, none⟩ 1 1 [.int .i64 y] hx rfl ?_ ?_ (by unfold maxLen; omega) (by omega) hbase (fun v' w' h1 h2 _ => hK v' w' ?_ h2)
  · intro j u hj
    cases j with
    | zero => simp at hj; subst hj; simpa [Addr.add] using hy
    | succ j => simp at hj
  · intro u hu; simp at hu; subst hu; rfl
  · unfold OutI
    rw [List.length_append, List.map_append]
    exact h1
end
section
variable {ops : Array Oper} {rest : List Oper} {o : Oper} {a : Act} {Q : Exit → Act → World → Prop}
set_option maxRecDepth 100000 in
theorem app_ints (w : World) (hg : o.guard = none) (s x : Operand) (ho : o.op = .call { callee := .builtin .append, args := #[s, x], argTypes := #[24, 24] }) (base : Nat) (v : Value) (l : List Int)
    (hs : a.eval s = v) (hown : OutI w base v l) (A : Addr) (m c : Nat) (ys : List Int) (hx : a.eval x = .slice (some A) m c) (hm : ys.length = m) (hy : ∀ j, j < m → w.cell? (A.add j) = some (.int .i64 (ys.getD j 0))) (hlen : l.length + m ≤ 1000000) (hbase : base ≤ w.heap.size)
    (hK : ∀ v' w', OutI w' base v' (l ++ ys) → w.grownBy w' v.ownBlock → wpList Tryd.prog ops Q rest (a.put o.dst v') w') : wpList Tryd.prog ops Q (o :: rest) a w := by
  obtain ⟨i0, hi, hz0, hz1, hz2⟩ := info_parts info_int
  refine wpList_append_own w hg s x 24 ho base 3 i0 (.int .i64 0) 1 8 under_ints hi hz0 hz1 hz2 rfl (by decide) v l.length _ hs hown A m c (ys.map (Value.int .i64)) hx (by rw [List.length_map, hm, Nat.mul_one]) ?_ ?_ (by unfold maxLen; omega) (by omega) hbase (fun v' w' h1 h2 _ => hK v' w' ?_ h2)
  · intro j u hj
    have hjm : j < ys.length := by
      rcases Nat.lt_or_ge j ys.length with h1 | h1
      · exact h1
      · rw [List.getElem?_eq_none (by rw [List.length_map]; exact h1)] at hj; cases hj
    rw [hy j (by omega)]
    rw [List.getElem?_map, List.getElem?_eq_getElem hjm] at hj
    injection hj with hj
    rw [← hj, List.getD_eq_getElem?_getD, List.getElem?_eq_getElem hjm]
    rfl
  · intro u hu
    obtain ⟨p, _, rfl⟩ := List.mem_map.1 hu
    rfl
  · unfold OutI
    rw [List.length_append, List.map_append, hm]
    exact h1
end
theorem add_none0 (b off k : Nat) : (Addr.add ⟨b, off, none⟩ k) = ⟨b, off + k, none⟩ := by
  unfold Addr.add
  by_cases h : k = 0 <;> simp [h]
theorem own_empty (w : World) : OutI (w.alloc (.cells #[] 3)) w.heap.size (.slice (some ⟨w.heap.size, 0, none⟩) 0 0) [] :=
  ⟨rfl, .inr ⟨w.heap.size, 0, #[], rfl, Nat.le_refl _, heap_alloc_new w _, Nat.le_refl _, by unfold maxLen; omega, rfl, rfl⟩⟩
set_option maxRecDepth 100000 in
theorem clone_ints (O : Option Addr) (cap : Nat) (os : List Int) (w : World) (h : IntsA w w.heap.size O os) (hl : os.length ≤ 1000) :
    Calls Tryd.prog 79 #[.slice O os.length cap] w fun e w' => ∃ v, e = .returned v ∧ OutI w' w.heap.size v os ∧ Below w.heap.size w w' := by
  have hrun := fun (w : World) (a : Option Addr) (l c : Nat) => Lib.run_eql_slice_nil (P := Tryd.prog) w 24 3 a l c 0 0 under_ints
  rcases O with _ | A
  · obtain rfl : os = [] := by
      rcases os with _ | ⟨x, r⟩
      · rfl
      · obtain ⟨b, off, e, _⟩ := h.2 (by simp)
        cases e
    go_enter Tryd.func79, Tryd.ntmps79
    go_wp2_with fail
    go_ret
    exact ⟨_, rfl, OutI.nil _ _, Below.refl _ _⟩
  · have hy : ∀ j, j < os.length → (w.alloc (.cells #[] 3)).cell? (A.add j) = some (.int .i64 (os.getD j 0)) := fun j hj => by
      obtain ⟨b, off, e, hb, hc⟩ := h.2 (by omega)
      injection e with e
      subst e
      rw [add_none0, acell _ _ _ _ hb]
      exact hc j hj
    have hO := own_empty w
    go_enter Tryd.func79, Tryd.ntmps79
    go_wp2_with (at_builtin; refine app_ints _ rfl _ _ rfl w.heap.size _ [] rfl hO A os.length cap os rfl rfl hy (by simp; omega) (by simp) ?_; intro v6 w6 hO6 hg6)
    go_ret
    exact ⟨_, rfl, hO6, ((Below.refl _ _).alloc (Nat.le_refl _) _).grown hg6 (by simp) (fun k hk => (own_block_lt hO k hk).1)⟩
end Go.Proofs.YtonpemikodajdaaDoor
