/- Three operations as the walks of this seat meet them: make of ints and of bools, append of one int. -/
import Derived.Test.YtlbbhlkbhegegaaProg
import Derived.Test.YtlbbhlkbhegegaaOwn
namespace Go.Proofs.Ytlbbhlkbhegegaa
open Go.RowKit

theorem info_int : (Try.prog.info? 3).map (fun i => (i.zero, i.size, i.bytes)) = some (some (.int .i64 0), 1, 8) := by kernel_rfl
theorem info_bool : (Try.prog.info? 4).map (fun i => (i.zero, i.size, i.bytes)) = some (some (.bool false), 1, 1) := by kernel_rfl
theorem under_ints : Try.prog.underlying 28 = some (.slice 3) := by kernel_rfl
theorem under_bools : Try.prog.underlying 89 = some (.slice 4) := by kernel_rfl

theorem made_get {z : Value} {n j : Nat} (hj : j < n) : (madeCells #[z] (n * 1)).toList.getD j undef = z := by
  rw [List.getD_eq_getElem?_getD, Array.getElem?_toList]
  simp [madeCells, hj, Nat.mod_one]

section
variable {ops : Array Oper} {rest : List Oper} {o : Oper} {a : Act} {Q : Exit → Act → World → Prop}
theorem mk_bools (w : World) (hg : o.guard = none) (l c : Operand) (hop : o.op = .makeSlice 89 l c) (n : Nat) (hl : a.eval l = .int .i64 (n : Int)) (hc : a.eval c = .int .i64 (n : Int)) (hn : n ≤ 1000000)
    (hK : ∀ w', OwnF w' w.heap.size 4 n (fun _ => .bool false) → Below w.heap.size w w' → wpList Try.prog ops Q rest (a.put o.dst (.slice (some ⟨w.heap.size, 0, none⟩) n n)) w') : wpList Try.prog ops Q (o :: rest) a w := by
  obtain ⟨i0, hi, hz0, hz1, hz2⟩ := info_parts info_bool
  refine wpList_make_full w hg l c 89 hop w.heap.size 4 i0 (.bool false) 1 under_bools hi hz0 hz1 .i64 .i64 _ _ n hl hc rfl rfl (by rw [hz2]; omega) (by unfold maxLen; omega) (Nat.le_refl _) (fun w' h1 h2 => hK w' ?_ ?_)
  · exact (OwnF.of_row h1 rfl).congr fun j hj => made_get hj
  · exact (Below.refl _ _).grown h2 (Nat.le_refl _) (fun k hk => by cases hk)
theorem mk_ints (w : World) (hg : o.guard = none) (l c : Operand) (hop : o.op = .makeSlice 28 l c) (n : Nat) (hl : a.eval l = .int .i64 (n : Int)) (hc : a.eval c = .int .i64 (n : Int)) (hn : n ≤ 1000000)
    (hK : ∀ w', OwnF w' w.heap.size 3 n (fun _ => .int .i64 0) → Below w.heap.size w w' → wpList Try.prog ops Q rest (a.put o.dst (.slice (some ⟨w.heap.size, 0, none⟩) n n)) w') : wpList Try.prog ops Q (o :: rest) a w := by
  obtain ⟨i0, hi, hz0, hz1, hz2⟩ := info_parts info_int
  refine wpList_make_full w hg l c 28 hop w.heap.size 3 i0 (.int .i64 0) 1 under_ints hi hz0 hz1 .i64 .i64 _ _ n hl hc rfl rfl (by rw [hz2]; omega) (by unfold maxLen; omega) (Nat.le_refl _) (fun w' h1 h2 => hK w' ?_ ?_)
  · exact (OwnF.of_row h1 rfl).congr fun j hj => made_get hj
  · exact (Below.refl _ _).grown h2 (Nat.le_refl _) (fun k hk => by cases hk)
theorem app_int (w : World) (hg : o.guard = none) (s x : Operand) (ho : o.op = .call { callee := .builtin .append, args := #[s, x], argTypes := #[28, 28] }) (base : Nat) (v : Value) (l : List Int)
    (hs : a.eval s = v) (hown : OutI w base v l) (wb : Nat) (y : Int) (hx : a.eval x = .slice (some ⟨wb, 0, none⟩) 1 1) (hy : w.cell? ⟨wb, 0, none⟩ = some (.int .i64 y)) (hlen : l.length ≤ 1000000) (hbase : base ≤ w.heap.size)
    (hK : ∀ v' w', OutI w' base v' (l ++ [y]) → w.grownBy w' v.ownBlock → wpList Try.prog ops Q rest (a.put o.dst v') w') : wpList Try.prog ops Q (o :: rest) a w := by
  obtain ⟨i0, hi, hz0, hz1, hz2⟩ := info_parts info_int
  refine wpList_append_own w hg s x 28 ho base 3 i0 (.int .i64 0) 1 8 under_ints hi hz0 hz1 hz2 rfl (by decide) v l.length _ hs hown ⟨wb, 0, none⟩ 1 1 [.int .i64 y] hx rfl ?_ ?_ (by unfold maxLen; omega) (by omega) hbase (fun v' w' h1 h2 _ => hK v' w' ?_ h2)
  · intro j u hj
    cases j with
    | zero => simp at hj; subst hj; simpa [Addr.add] using hy
    | succ j => simp at hj
  · intro u hu; simp at hu; subst hu; rfl
  · unfold OutI
    rw [List.length_append, List.map_append]
    exact h1
end
end Go.Proofs.Ytlbbhlkbhegegaa
