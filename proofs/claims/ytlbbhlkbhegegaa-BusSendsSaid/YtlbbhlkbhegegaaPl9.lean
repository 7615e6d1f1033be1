/- Walks: slices.Clone of ints, bus.Keeps. -/
import Derived.Test.YtlbbhlkbhegegaaLaws
namespace Go.Proofs.Ytlbbhlkbhegegaa
open Go.RowKit

section
variable {ops : Array Oper} {rest : List Oper} {o : Oper} {a : Act} {Q : Exit → Act → World → Prop}
set_option maxRecDepth 100000 in
theorem app_ints (w : World) (hg : o.guard = none) (s x : Operand) (ho : o.op = .call { callee := .builtin .append, args := #[s, x], argTypes := #[28, 28] }) (base : Nat) (v : Value) (l : List Int)
    (hs : a.eval s = v) (hown : OutI w base v l) (A : Addr) (m c : Nat) (ys : List Int) (hx : a.eval x = .slice (some A) m c) (hm : ys.length = m) (hy : ∀ j, j < m → w.cell? (A.add j) = some (.int .i64 (ys.getD j 0))) (hlen : l.length + m ≤ 1000000) (hbase : base ≤ w.heap.size)
    (hK : ∀ v' w', OutI w' base v' (l ++ ys) → w.grownBy w' v.ownBlock → wpList Try.prog ops Q rest (a.put o.dst v') w') : wpList Try.prog ops Q (o :: rest) a w := by
  obtain ⟨i0, hi, hz0, hz1, hz2⟩ := info_parts info_int
  refine wpList_append_own w hg s x 28 ho base 3 i0 (.int .i64 0) 1 8 under_ints hi hz0 hz1 hz2 rfl (by decide) v l.length _ hs hown A m c (ys.map (Value.int .i64)) hx (by rw [List.length_map, hm, Nat.mul_one]) ?_ ?_ (by unfold maxLen; omega) (by omega) hbase (fun v' w' h1 h2 _ => hK v' w' ?_ h2)
  · intro j u hj
    have hjm : j < ys.length := by
      rcases Nat.lt_or_ge j ys.length with h1 | h1
      · exact h1
      · rw [List.getElem?_eq_none (by rw [List.length_map]; exact h1)] at hj; cases hj
    rw [hy j (by omega)]
    rw [List.getElem?_map, List.getElem?_eq_getElem hjm] at hj
    injection hj with hj
    rw [← hj, List.getD_eq_getElem?_getD, List.getElem?_eq_getElem hjm]
    rfl
  · intro u hu
    obtain ⟨p, _, rfl⟩ := List.mem_map.1 hu
    rfl
  · unfold OutI
    rw [List.length_append, List.map_append, hm]
    exact h1
end
theorem add_none0 (b off k : Nat) : (Addr.add ⟨b, off, none⟩ k) = ⟨b, off + k, none⟩ := by
  unfold Addr.add
  by_cases h : k = 0 <;> simp [h]
theorem own_empty (w : World) : OutI (w.alloc (.cells #[] 3)) w.heap.size (.slice (some ⟨w.heap.size, 0, none⟩) 0 0) [] :=
  ⟨rfl, .inr ⟨w.heap.size, 0, #[], rfl, Nat.le_refl _, heap_alloc_new w _, Nat.le_refl _, by unfold maxLen; omega, rfl, rfl⟩⟩
set_option maxRecDepth 100000 in
theorem clone_ints (O : Option Addr) (cap : Nat) (os : List Int) (w : World) (h : IntsA w w.heap.size O os) (hl : os.length ≤ 1000) :
    Calls Try.prog 83 #[.slice O os.length cap] w fun e w' => ∃ v, e = .returned v ∧ OutI w' w.heap.size v os ∧ Below w.heap.size w w' := by
  have hrun := fun (w : World) (a : Option Addr) (l c : Nat) => Lib.run_eql_slice_nil (P := Try.prog) w 28 3 a l c 0 0 under_ints
  rcases O with _ | A
  · obtain rfl : os = [] := by
      rcases os with _ | ⟨x, r⟩
      · rfl
      · obtain ⟨b, off, e, _⟩ := h.2 (by simp)
        cases e
    go_enter Try.func83, Try.ntmps83
    go_wp2_with fail
    go_ret
    exact ⟨_, rfl, OutI.nil _ _, Below.refl _ _⟩
  · have hy : ∀ j, j < os.length → (w.alloc (.cells #[] 3)).cell? (A.add j) = some (.int .i64 (os.getD j 0)) := fun j hj => by
      obtain ⟨b, off, e, hb, hc⟩ := h.2 (by omega)
      injection e with e
      subst e
      rw [add_none0, acell _ _ _ _ hb]
      exact hc j hj
    have hO := own_empty w
    go_enter Try.func83, Try.ntmps83
    go_wp2_with (at_builtin; refine app_ints _ rfl _ _ rfl w.heap.size _ [] rfl hO A os.length cap os rfl rfl hy (by simp; omega) (by simp) ?_; intro v6 w6 hO6 hg6)
    go_ret
    exact ⟨_, rfl, hO6, ((Below.refl _ _).alloc (Nat.le_refl _) _).grown hg6 (by simp) (fun k hk => (own_block_lt hO k hk).1)⟩
end Go.Proofs.Ytlbbhlkbhegegaa
