/- Walks: a queue of numbers: put, take. -/
import Derived.Test.YtegclodchhcbaaaAr
namespace Go.Proofs.Ytegclodchhcbaaa
open Go.RowKit

/-- a queue's row: new from B on, it may begin behind its block's begin -/
def QueA (w : World) (B : Nat) (v : Value) (Q : List Int) : Prop :=
  (v = .slice none 0 0 ∧ Q = []) ∨ ∃ g off cap, v = .slice (some ⟨g, off, none⟩) Q.length cap ∧ B ≤ g ∧ Q.length ≤ cap ∧ cap ≤ maxLen ∧ (∃ C, w.heap[g]? = some (.cells C 3 (0, 0)) ∧ off + cap ≤ C.size ∧ ∀ j, j < Q.length → C[off + j]? = some (.int .i64 (Q.getD j 0)))
theorem QueA.of_own {w : World} {B B' : Nat} {v : Value} {Q : List Int} {l : List Value} {n : Nat} (h : w.ownsRow B 3 1 v n l) (hl : l = Q.map (Value.int .i64)) (hn : n = Q.length) (hB : B' ≤ B) : QueA w B' v Q := by
  subst hl hn
  rcases h.2 with ⟨hv, h0⟩ | ⟨g, cap, cur, hv, hb, hh, h1, hm, hsz, htk⟩
  · exact .inl ⟨hv, List.eq_nil_of_length_eq_zero h0⟩
  · refine .inr ⟨g, 0, cap, hv, by omega, h1, hm, cur, hh, by omega, fun j hj => ?_⟩
    have h2 : (cur.toList.take (Q.length * 1))[j]? = (Q.map (Value.int .i64))[j]? := by rw [htk]
    rw [List.getElem?_take_of_lt (by omega), List.getElem?_map, List.getElem?_eq_getElem hj] at h2
    rw [Nat.zero_add, ← Array.getElem?_toList, h2, List.getD_eq_getElem?_getD, List.getElem?_eq_getElem hj]
    rfl
theorem QueA.keep {w w' : World} {B : Nat} {v : Value} {Q : List Int} (h : QueA w B v Q) (hk : ∀ b, B ≤ b → b < w.heap.size → w'.heap[b]? = w.heap[b]?) : QueA w' B v Q := by
  rcases h with h | ⟨g, off, cap, hv, hb, h1, hm, C, hh, h2, h3⟩
  · exact .inl h
  · exact .inr ⟨g, off, cap, hv, hb, h1, hm, C, (hk g hb (lt_of_cells hh)).trans hh, h2, h3⟩
theorem QueA.form {w : World} {B : Nat} {v : Value} {Q : List Int} (h : QueA w B v Q) : ∃ A cap, v = .slice A Q.length cap := by
  rcases h with ⟨hv, h0⟩ | ⟨g, off, cap, hv, _⟩
  · exact ⟨none, 0, by rw [hv, h0]; rfl⟩
  · exact ⟨_, cap, hv⟩
section
variable {ops : Array Oper} {rest : List Oper} {o : Oper} {a : Act} {R : Exit → Act → World → Prop}
theorem app_que (w : World) (hg : o.guard = none) (s x : Operand) (ho : o.op = .call { callee := .builtin .append, args := #[s, x], argTypes := #[28, 28] }) (B : Nat) (v : Value) (Q : List Int)
    (hs : a.eval s = v) (hQ : QueA w B v Q) (wb : Nat) (y : Int) (hx : a.eval x = .slice (some ⟨wb, 0, none⟩) 1 1) (hy : w.cell? ⟨wb, 0, none⟩ = some (.int .i64 y)) (hlen : Q.length ≤ 1000000) (hB : B ≤ w.heap.size)
    (hK : ∀ v' w', QueA w' B v' (Q ++ [y]) → Below B w w' → wpList Try.prog ops R rest (a.put o.dst v') w') : wpList Try.prog ops R (o :: rest) a w := by
  obtain ⟨i0, hi, hz0, hz1, hz2⟩ := info_parts info_int
  have hn1 : ∀ (j : Nat) (u : Value), [Value.int .i64 y][j]? = some u → w.cell? ((⟨wb, 0, none⟩ : Addr).add j) = some u := fun j u hj => by
    cases j with
    | zero => simp at hj; subst hj; simpa [Addr.add] using hy
    | succ j => simp at hj
  have hn2 : ∀ u ∈ [Value.int .i64 y], u.oneCell' = true := fun u hu => by simp at hu; subst hu; rfl
  rcases hQ with ⟨hv, hQ0⟩ | ⟨g, off, cap, hv, hb, h1, hm, C, hh, h2, h3⟩
  · subst hv hQ0
    refine wpList_append_grows w hg s x 28 ho 3 i0 (.int .i64 0) 1 8 under_ints hi hz0 hz1 hz2 rfl (by decide) none 0 0 [] hs (fun _ => ⟨rfl, rfl⟩) rfl (fun _ h => by cases h) ⟨wb, 0, none⟩ 1 1 [.int .i64 y] hx rfl hn1 hn2 (by decide) (by decide) (by decide) (fun v' w' r1 r2 => ?_)
    exact hK v' w' (QueA.of_own r1 (by simp) (by simp) hB) ((Below.refl _ _).grown r2 hB (fun _ h => by cases h))
  · refine wpList_append_arg w hg s x 28 ho 3 i0 (.int .i64 0) 1 8 under_ints hi hz0 hz1 hz2 rfl (by decide) g off Q.length cap (Q.map (Value.int .i64)) (hs.trans hv) (by simp) (fun j u hj => ?_) ⟨wb, 0, none⟩ 1 1 [.int .i64 y] hx rfl hn1 hn2 (fun hr j hj => ?_) (by unfold maxLen; omega) (by omega) (fun hr => ?_) (fun hr v' w' r1 r2 => ?_)
    · have hjl : j < Q.length := by
        rcases Nat.lt_or_ge j Q.length with hh | hh
        · exact hh
        · rw [List.getElem?_eq_none (by rw [List.length_map]; exact hh)] at hj; cases hj
      rw [cell_of_row w g _ C 3 (0, 0) hh, h3 j hjl]
      rw [List.getElem?_map, List.getElem?_eq_getElem hjl] at hj
      rw [List.getD_eq_getElem?_getD, List.getElem?_eq_getElem hjl]
      exact hj
    · have hj0 : j < 1 := hj
      rw [cell_of_row w g _ C 3 (0, 0) hh, Array.getElem?_eq_getElem (by omega)]
      exact ⟨rfl, row_frozen hh _⟩
    · refine hK _ _ (.inr ⟨g, off, cap, by simp, hb, by simpa using hr, hm, C.setIfInBounds (off + Q.length * 1 + 0) (.int .i64 y), heap_setCell_same w g _ C 3 _ hh, by simpa using h2, fun j hj => ?_⟩) ((Below.refl B w).setCell (p := ⟨g, off + Q.length * 1 + 0, none⟩) hb _)
      simp only [List.length_append, List.length_cons, List.length_nil] at hj
      rw [Array.getElem?_setIfInBounds]
      by_cases e : j = Q.length
      · subst e
        rw [if_pos (by omega), if_pos (by omega)]
        simp
      · rw [if_neg (by omega), h3 j (by omega), List.getD_eq_getElem?_getD, List.getD_eq_getElem?_getD, List.getElem?_append_left (by omega)]
    · exact hK v' w' (QueA.of_own r1 (by simp) (by simp) hB) ((Below.refl _ _).grown r2 hB (fun _ h => by cases h))
end
set_option maxRecDepth 100000 in
theorem put_any (qb : Nat) (x : Int) (v : Value) (Q : List Int) (B : Nat) (w : World) (hq : w.heap[qb]? = some (.cells #[v] 123 (0, 0))) (hQ : QueA w B v Q) (hqB : qb < B) (hl : Q.length ≤ 1000000) (hB : B ≤ w.heap.size) :
    Calls Try.prog 98 #[.pointer (some ⟨qb, 0, none⟩), .int .i64 x] w fun e w' => e = .returned (.tuple #[]) ∧ ∃ v', w'.heap[qb]? = some (.cells #[v'] 123 (0, 0)) ∧ QueA w' B v' (Q ++ [x]) ∧ Below qb w w' ∧ w'.heap.size ≥ w.heap.size ∧ ∀ b, b < B → b ≠ qb → w'.heap[b]? = w.heap[b]? := by
  have q0 := cell_of_row w qb 0 _ _ _ hq
  simp only [List.getElem?_toArray, List.getElem?_cons_zero] at q0
  have HQ := Lib.hid hQ
  have HH := Lib.hid hq
  have hqs := lt_of_cells hq
  clear hQ hq
  have HQ1 : Hid (QueA (w.alloc (.cells #[.int .i64 x] 3)) B v Q) := HQ.out.keep fun b _ hb => Below.heap_alloc _ _ _ hb
  have HC1 := Lib.hid (newcell w #[.int .i64 x] 3 0)
  have hB1 : B ≤ (w.alloc (.cells #[.int .i64 x] 3)).heap.size := by simp; omega
  go_enter Try.func98, Try.ntmps98
  go_wp2_with (at_builtin; refine app_que _ rfl _ _ rfl B v Q rfl HQ1.out w.heap.size x rfl HC1.out hl hB1 ?_; intro v7 w7 hQ7 hb7; obtain ⟨A7, c7, rfl⟩ := hQ7.form; have hq7 := (hb7.block qb hqB).trans ((Below.heap_alloc w _ qb hqs).trans HH.out); have u0 := cell_of_row w7 qb 0 _ _ _ hq7; have z0 := row_frozen hq7 0; simp only [List.getElem?_toArray, List.getElem?_cons_zero] at u0; have HQ7 := Lib.hid hQ7; have HB7 := Lib.hid hb7; have HH7 := Lib.hid hq7; clear hQ7 hb7 hq7)
  go_end0
  have hln : (Q ++ [x]).length = Q.length + 1 := by simp
  refine ⟨rfl, _, heap_setCell_same w7 qb 0 _ 123 _ HH7.out, (by have h9 := HQ7.out.keep (w' := w7.setCell ⟨qb, 0, none⟩ (.slice A7 (Q ++ [x]).length c7)) (fun b hb _ => Below.heap_setCell w7 ⟨qb, 0, none⟩ _ b (by show b ≠ qb; omega)); rw [hln] at h9; exact h9), ?_, ?_, fun b hb hne => ?_⟩
  · exact (((Below.refl B w).alloc hB _).trans HB7.out |>.mono (Nat.le_of_lt hqB)).setCell (p := ⟨qb, 0, none⟩) (Nat.le_refl _) _
  · have := HB7.out.size
    simp at this ⊢
    omega
  · exact (Below.heap_setCell w7 ⟨qb, 0, none⟩ _ b hne).trans ((HB7.out.block b hb).trans (Below.heap_alloc w _ b (by omega)))
set_option maxRecDepth 100000 in
theorem take_any (qb : Nat) (x : Int) (v : Value) (Q : List Int) (B : Nat) (w : World) (hq : w.heap[qb]? = some (.cells #[v] 123 (0, 0))) (hQ : QueA w B v (x :: Q)) (hqB : qb < B) (hl : Q.length ≤ 1000000) :
    Calls Try.prog 99 #[.pointer (some ⟨qb, 0, none⟩)] w fun e w' => e = .returned (.int .i64 x) ∧ ∃ v', w'.heap[qb]? = some (.cells #[v'] 123 (0, 0)) ∧ QueA w' B v' Q ∧ Below qb w w' ∧ w'.heap.size = w.heap.size ∧ ∀ b, b ≠ qb → w'.heap[b]? = w.heap[b]? := by
  rcases hQ with ⟨hv, h0⟩ | ⟨g, off, cap, rfl, hb, h1, hm, C, hh, h2, h3⟩
  · cases h0
  have q0 := cell_of_row w qb 0 _ _ _ hq
  have f0 := row_frozen hq 0
  simp only [List.getElem?_toArray, List.getElem?_cons_zero] at q0
  have c0 : w.cell? ⟨g, off, none⟩ = some (.int .i64 x) := by
    rw [cell_of_row w g _ C 3 (0, 0) hh]
    exact h3 0 (by simp)
  have HH := Lib.hid hq
  have HG := Lib.hid hh
  have H3 := Lib.hid h3
  have hl1 : (x :: Q).length = Q.length + 1 := rfl
  rw [hl1] at q0 h1
  have HL := Lib.hid hl1
  unfold maxLen at hm
  clear hh hq h3 hl1
  go_enter Try.func99, Try.ntmps99
  by_cases hc1 : cap = 1
  · subst hc1
    go_wp2_with fail
    go_ret
    obtain rfl : Q = [] := List.eq_nil_of_length_eq_zero (by omega)
    refine ⟨rfl, _, heap_setCell_same w qb 0 _ 123 _ HH.out, .inr ⟨g, off, 0, rfl, hb, by omega, by decide, C, (Below.heap_setCell w ⟨qb, 0, none⟩ _ g (by show g ≠ qb; omega)).trans HG.out, by omega, fun j hj => by omega⟩, (Below.refl qb w).setCell (p := ⟨qb, 0, none⟩) (Nat.le_refl _) _, by simp, fun b hne => Below.heap_setCell w ⟨qb, 0, none⟩ _ b hne⟩
  · go_wp2_with fail
    go_ret
    refine ⟨rfl, _, heap_setCell_same w qb 0 _ 123 _ HH.out, .inr ⟨g, off + 1, cap - 1, rfl, hb, by omega, by unfold maxLen; omega, C, (Below.heap_setCell w ⟨qb, 0, none⟩ _ g (by show g ≠ qb; omega)).trans HG.out, by omega, fun j hj => ?_⟩, (Below.refl qb w).setCell (p := ⟨qb, 0, none⟩) (Nat.le_refl _) _, by simp, fun b hne => Below.heap_setCell w ⟨qb, 0, none⟩ _ b hne⟩
    have := H3.out (j + 1) (by rw [HL.out]; omega)
    rw [show off + 1 + j = off + (j + 1) by omega, this]
    rfl
end Go.Proofs.Ytegclodchhcbaaa
