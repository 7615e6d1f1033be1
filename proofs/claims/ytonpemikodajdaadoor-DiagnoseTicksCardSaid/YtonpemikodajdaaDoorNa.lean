/- Walk: slices.Clone of codes. -/
import Derived.Test.YtonpemikodajdaaDoorMb
namespace Go.Proofs.YtonpemikodajdaaDoor
open Go.RowKit

/-- codes with their frames' values -/
def zipK (ks : List MCode) (pv : Nat → Option Addr × Nat) : List (MCode × Value) := (List.range ks.length).map fun i => (ks.getD i dCode, .slice (pv i).1 (ks.getD i dCode).frame.length (pv i).2)
theorem zipK_len (ks : List MCode) (pv : Nat → Option Addr × Nat) : (zipK ks pv).length = ks.length := by simp [zipK]
theorem zipK_fst (ks : List MCode) (pv : Nat → Option Addr × Nat) : (zipK ks pv).map Prod.fst = ks := by
  unfold zipK
  rw [List.map_map]
  apply List.ext_getElem
  · simp
  · intro i h1 h2
    simp only [List.getElem_map, List.getElem_range, Function.comp]
    rw [List.getD_eq_getElem?_getD, List.getElem?_eq_getElem h2]
    rfl
theorem zipK_at (ks : List MCode) (pv : Nat → Option Addr × Nat) {i : Nat} (hi : i < ks.length) : (zipK ks pv)[i]? = some (ks.getD i dCode, .slice (pv i).1 (ks.getD i dCode).frame.length (pv i).2) := by
  unfold zipK
  rw [List.getElem?_map, List.getElem?_range hi]
  rfl
theorem zipK_one (ks : List MCode) (pv : Nat → Option Addr × Nat) : ∀ p ∈ zipK ks pv, p.2.oneCell' = true := fun p hp => by
  obtain ⟨i, _, rfl⟩ := List.mem_map.1 hp
  rfl
theorem zipK_cell {w : World} {B b off : Nat} {ks : List MCode} {pv : Nat → Option Addr × Nat} (h : SlA w B 6 (some ⟨b, off, none⟩) ks.length (codeCell ks pv)) {t : Nat} {u : Value} (ht : ((zipK ks pv).flatMap cells6)[t]? = some u) : w.cell? ⟨b, off + t, none⟩ = some u := by
  have hl : t < ks.length * 6 := by
    rcases Nat.lt_or_ge t (ks.length * 6) with hh | hh
    · exact hh
    · rw [List.getElem?_eq_none (by rw [cells6_len, zipK_len]; exact hh)] at ht; cases ht
  have hi : t / 6 < ks.length := by omega
  have hj : t % 6 < 6 := Nat.mod_lt _ (by decide)
  have e : t / 6 * 6 + t % 6 = t := by omega
  obtain ⟨b', off', hA, _, hc⟩ := h (by omega)
  injection hA with hA
  injection hA with e1 e2
  subst e1
  subst e2
  have h1 := hc (t / 6) (t % 6) hi hj
  rw [Nat.add_assoc, e] at h1
  rw [h1]
  rw [← e, cells6_at (zipK_at ks pv hi) hj] at ht
  rw [← ht]
  unfold codeCell cells6
  rcases (show t % 6 = 0 ∨ t % 6 = 1 ∨ t % 6 = 2 ∨ t % 6 = 3 ∨ t % 6 = 4 ∨ t % 6 = 5 by omega) with q | q | q | q | q | q <;> rw [q] <;> rfl
theorem own_empty6 (w : World) : RowC (w.alloc (.cells #[] 46)) w.heap.size (.slice (some ⟨w.heap.size, 0, none⟩) 0 0) [] :=
  ⟨rfl, .inr ⟨w.heap.size, 0, #[], rfl, Nat.le_refl _, heap_alloc_new w _, Nat.le_refl _, by unfold maxLen; omega, rfl, rfl⟩⟩
section
variable {ops : Array Oper} {rest : List Oper} {o : Oper} {a : Act} {Q : Exit → Act → World → Prop}
set_option maxRecDepth 100000 in
theorem app_codes (w : World) (hg : o.guard = none) (s x : Operand) (ho : o.op = .call { callee := .builtin .append, args := #[s, x], argTypes := #[25, 25] }) (base : Nat) (V : Value)
    (hs : a.eval s = V) (hown : RowC w base V []) (A : Addr) (m c : Nat) (K : List (MCode × Value)) (hx : a.eval x = .slice (some A) m c) (hm : K.length = m) (hone : ∀ p ∈ K, p.2.oneCell' = true) (hy : ∀ j u, (K.flatMap cells6)[j]? = some u → w.cell? (A.add j) = some u) (hlen : m ≤ 1000000) (hbase : base ≤ w.heap.size)
    (hK : ∀ V' w', RowC w' base V' K → w.grownBy w' V.ownBlock → wpList Tryd.prog ops Q rest (a.put o.dst V') w') : wpList Tryd.prog ops Q (o :: rest) a w := by
  obtain ⟨i0, hi, hz0, hz1, hz2⟩ := info_parts info_code
  refine wpList_append_own w hg s x 25 ho base 46 i0 _ 6 64 under_codes hi hz0 hz1 hz2 rfl (by decide) V 0 [] hs hown A m c (K.flatMap cells6) hx (by rw [cells6_len, hm]) hy (one_cells hone) (by unfold maxLen; omega) (by omega) hbase (fun V' w' h1 h2 _ => hK V' w' ?_ h2)
  unfold RowC
  rw [Nat.zero_add, List.nil_append] at h1
  rw [hm]
  exact h1
end
set_option maxRecDepth 100000 in
theorem clone_codes (A : Option Addr) (cap : Nat) (ks : List MCode) (w : World) (pv : Nat → Option Addr × Nat) (h : SlA w w.heap.size 6 A ks.length (codeCell ks pv)) (hl : ks.length ≤ 1000000) :
    Calls Tryd.prog 107 #[.slice A ks.length cap] w fun e w' => ∃ V K, e = .returned V ∧ RowC w' w.heap.size V K ∧ (K = zipK ks pv) ∧ Below w.heap.size w w' := by
  have hrun := fun (w : World) (a : Option Addr) (l c : Nat) => Lib.run_eql_slice_nil (P := Tryd.prog) w 25 46 a l c 0 0 under_codes
  rcases A with _ | ⟨b, off, sp⟩
  · obtain rfl : ks = [] := by
      rcases ks with _ | ⟨x, r⟩
      · rfl
      · obtain ⟨b, off, e, _⟩ := h (by simp)
        cases e
    go_enter Tryd.func107, Tryd.ntmps107
    go_wp2_with fail
    go_ret
    exact ⟨_, [], rfl, World.ownsRow_nil _ _ _ _, rfl, Below.refl _ _⟩
  · have hy : ∀ j u, ((zipK ks pv).flatMap cells6)[j]? = some u → (w.alloc (.cells #[] 46)).cell? (Addr.add ⟨b, off, sp⟩ j) = some u := fun j u hj => by
      have hks : 0 < ks.length := by
        rcases Nat.eq_zero_or_pos ks.length with h0 | h0
        · rw [List.getElem?_eq_none (by rw [cells6_len, zipK_len, h0]; omega)] at hj; cases hj
        · exact h0
      obtain ⟨b', off', e, hb, _⟩ := id (h hks)
      injection e with e
      injection e with e1 e2 e3
      subst e1
      subst e2
      subst e3
      rw [add_none0, acell _ _ _ _ hb]
      exact zipK_cell h hj
    have hO := own_empty6 w
    have hzl := zipK_len ks pv
    have hzo := zipK_one ks pv
    have HZL := Lib.hid hzl
    have HY := Lib.hid hy
    clear hzl hy h
    go_enter Tryd.func107, Tryd.ntmps107
    go_wp2_with (at_builtin; refine app_codes _ rfl _ _ rfl w.heap.size _ rfl hO ⟨b, off, sp⟩ ks.length cap (zipK ks pv) rfl HZL.out hzo HY.out hl (by simp) ?_; intro V6 w6 hO6 hg6)
    go_ret
    exact ⟨_, _, rfl, hO6, rfl, ((Below.refl _ _).alloc (Nat.le_refl _) _).grown hg6 (by simp) (fun k hk => (own_block_lt hO k hk).1)⟩
end Go.Proofs.YtonpemikodajdaaDoor
