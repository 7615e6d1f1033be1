/- The order of the gates: all gates, each one once, each behind those that lead to it. -/
import Derived.Test.YtlbbhlkbhegegaaOrd
namespace Go.Proofs.Ytlbbhlkbhegegaa
open Go.RowKit

theorem orderFrom_spec {n : MNet} : ∀ (m : Nat) (out l : List Int), orderFrom n m out = some l →
    ∃ suf, l = out ++ suf ∧ suf.length = m ∧ ∀ p g q, suf = p ++ g :: q → readyB n (out ++ p) g = true ∧ ∃ k : Nat, g = (k : Int) ∧ k < n.gates.length := by
  intro m
  induction m with
  | zero =>
    intro out l h
    simp only [orderFrom, Option.some.injEq] at h
    exact ⟨[], by simp [h], rfl, fun p g q e => by simp at e⟩
  | succ m ih =>
    intro out l h
    rcases hn : nextG n out with _ | k
    · rw [orderFrom_none hn] at h; cases h
    · rw [orderFrom_some hn] at h
      obtain ⟨suf, hl, hs, hp⟩ := ih _ _ h
      refine ⟨(k : Int) :: suf, by rw [hl]; simp, by simp [hs], fun p g q e => ?_⟩
      have hk : readyB n out (k : Int) = true ∧ k < n.gates.length := by
        unfold nextG at hn
        have h1 := List.find?_some hn
        have h2 := List.mem_of_find?_eq_some hn
        exact ⟨h1, List.mem_range.1 h2⟩
      cases p with
      | nil =>
        simp only [List.nil_append, List.cons.injEq] at e
        obtain ⟨rfl, _⟩ := e
        exact ⟨by simpa using hk.1, k, rfl, hk.2⟩
      | cons x p =>
        simp only [List.cons_append, List.cons.injEq] at e
        obtain ⟨rfl, e⟩ := e
        have := hp p g q e
        simpa using this
theorem order_len {n : MNet} {l : List Int} (h : orderS n = some l) : l.length = n.gates.length := by
  obtain ⟨suf, hl, hs, _⟩ := orderFrom_spec _ _ _ h
  rw [hl]; simpa using hs
theorem order_split {n : MNet} {l : List Int} (h : orderS n = some l) {p q : List Int} {g : Int} (e : l = p ++ g :: q) : readyB n p g = true ∧ ∃ k : Nat, g = (k : Int) ∧ k < n.gates.length := by
  obtain ⟨suf, hl, _, hp⟩ := orderFrom_spec _ _ _ h
  rw [List.nil_append] at hl
  have := hp p g q (by rw [← hl]; exact e)
  simpa using this
theorem split_at {l : List Int} {t : Nat} (ht : t < l.length) : l = l.take t ++ l.getD t 0 :: l.drop (t + 1) := by
  rw [List.getD_eq_getElem?_getD, List.getElem?_eq_getElem ht]
  simp
theorem order_at {n : MNet} {l : List Int} (h : orderS n = some l) {t : Nat} (ht : t < l.length) : ∃ k : Nat, l.getD t 0 = (k : Int) ∧ k < n.gates.length :=
  (order_split h (split_at ht)).2
theorem drop_at {l : List Int} {t : Nat} (ht : t < l.length) : l.drop t = l.getD t 0 :: l.drop (t + 1) := by
  rw [List.drop_eq_getElem_cons ht, List.getD_eq_getElem?_getD, List.getElem?_eq_getElem ht]; rfl
end Go.Proofs.Ytlbbhlkbhegegaa
