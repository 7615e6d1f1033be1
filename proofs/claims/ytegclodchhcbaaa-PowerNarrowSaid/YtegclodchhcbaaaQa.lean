/- Spare's contract; a user's power raised in memory of the call's own. -/
import Derived.Test.YtegclodchhcbaaaPz
import Derived.Test.YtegclodchhcbaaaCc
import Derived.Test.YtegclodchhcbaaaRp
namespace Go.Proofs.Ytegclodchhcbaaa
open Go.RowKit

/-- by how much a user can grow, at most 600000 -/
structure SpareAt (g : MGrid) (u : Nat) (m : Int) : Prop where
  lo : 0 ≤ m
  hi : m ≤ 600000
  car : 0 < m → carG (grown g u m) [] (allL g.users.length)
  non : m < 600000 → ¬ carG (grown g u (m + 1)) [] (allL g.users.length)
theorem grown_mono {g : MGrid} {u : Nat} {m m' : Int} (hu : u < g.users.length) (hc : carG g [] (allL g.users.length)) (h : m ≤ m') (hk : carG (grown g u m') [] (allL g.users.length)) : carG (grown g u m) [] (allL g.users.length) := by
  rw [grown_car hu hc] at hk ⊢
  intro S hS
  have := hk S hS
  omega
theorem SpareAt.one {g : MGrid} {u : Nat} {m m' : Int} (h : SpareAt g u m) (h' : SpareAt g u m') (hu : u < g.users.length) (hc : carG g [] (allL g.users.length)) : m = m' := by
  rcases Int.lt_trichotomy m m' with e | e | e
  · exact absurd (grown_mono hu hc (by omega) (h'.car (by have := h.lo; omega))) (h.non (by have := h'.hi; omega))
  · exact e
  · exact absurd (grown_mono hu hc (by omega) (h.car (by have := h'.lo; omega))) (h'.non (by have := h.hi; omega))
def SpareP (g : MGrid) (u : Int) (w : World) (e : Ending) (w' : World) : Prop :=
  Below w.heap.size w w' ∧ ((checkG g ≠ 0 ∧ e = .returned (.tuple #[.int .i64 0, .int .i64 (checkG g)])) ∨ (checkG g = 0 ∧ ¬ (0 ≤ u ∧ u < g.users.length) ∧ e = .returned (.tuple #[.int .i64 0, .int .i64 1])) ∨
    (checkG g = 0 ∧ (0 ≤ u ∧ u < g.users.length) ∧ ¬ carG g [] (allL g.users.length) ∧ e = .returned (.tuple #[.int .i64 0, .int .i64 71])) ∨
    (checkG g = 0 ∧ (0 ≤ u ∧ u < g.users.length) ∧ carG g [] (allL g.users.length) ∧ ∃ m, SpareAt g u.toNat m ∧ e = .returned (.tuple #[.int .i64 m, .int .i64 0])))
/-- the answer is one -/
theorem spare_det (g : MGrid) (u : Int) : ∃ a b : Int, ∀ w e w', SpareP g u w e w' → e = .returned (.tuple #[.int .i64 a, .int .i64 b]) ∧ Below w.heap.size w w' := by
  by_cases h1 : checkG g = 0
  · by_cases h2 : 0 ≤ u ∧ u < g.users.length
    · by_cases h3 : carG g [] (allL g.users.length)
      · by_cases h4 : ∃ m, SpareAt g u.toNat m
        · obtain ⟨m, hm⟩ := h4
          refine ⟨m, 0, fun w e w' ⟨hb, h⟩ => ⟨?_, hb⟩⟩
          rcases h with ⟨k, _⟩ | ⟨_, k, _⟩ | ⟨_, _, k, _⟩ | ⟨_, _, _, m', hm', he⟩
          · exact absurd h1 k
          · exact absurd h2 k
          · exact absurd h3 k
          · rw [he, hm'.one hm (by omega) h3]
        · refine ⟨0, 0, fun w e w' ⟨hb, h⟩ => ⟨?_, hb⟩⟩
          rcases h with ⟨k, _⟩ | ⟨_, k, _⟩ | ⟨_, _, k, _⟩ | ⟨_, _, _, m', hm', he⟩
          · exact absurd h1 k
          · exact absurd h2 k
          · exact absurd h3 k
          · exact absurd ⟨m', hm'⟩ h4
      · refine ⟨0, 71, fun w e w' ⟨hb, h⟩ => ⟨?_, hb⟩⟩
        rcases h with ⟨k, _⟩ | ⟨_, k, _⟩ | ⟨_, _, _, he⟩ | ⟨_, _, k, _⟩
        · exact absurd h1 k
        · exact absurd h2 k
        · exact he
        · exact absurd k h3
    · refine ⟨0, 1, fun w e w' ⟨hb, h⟩ => ⟨?_, hb⟩⟩
      rcases h with ⟨k, _⟩ | ⟨_, _, he⟩ | ⟨_, k, _⟩ | ⟨_, k, _⟩
      · exact absurd h1 k
      · exact he
      · exact absurd k h2
      · exact absurd k h2
  · refine ⟨0, checkG g, fun w e w' ⟨hb, h⟩ => ⟨?_, hb⟩⟩
    rcases h with ⟨_, he⟩ | ⟨k, _⟩ | ⟨k, _⟩ | ⟨k, _⟩
    · exact he
    · exact absurd k h1
    · exact absurd k h1
    · exact absurd k h1
theorem checkG_pow {g : MGrid} (h : checkG g = 0) : ∀ v ∈ g.users, v.power ≤ 100000 := fun v hv => by
  unfold checkG at h
  split at h
  · exact absurd h (by decide)
  · split at h
    · exact absurd h (by decide)
    · split at h
      · exact absurd h (by decide)
      · split at h
        · exact absurd h (by decide)
        · split at h
          · exact absurd h (by decide)
          · rename_i h5
            simp only [Bool.not_eq_false] at h5
            have := List.all_eq_true.1 h5 v hv
            unfold userB at this
            simp only [Bool.and_eq_true, inB_iff] at this
            omega
theorem allL_want' (g : MGrid) : WantOk g (allL g.users.length) := fun x hx => by have := allL_mem.1 hx; omega
/-- a user's power set, in memory of the call's own -/
theorem OwnG.grow {w : World} {B : Nat} {g : MGrid} {A1 A2 A3 : Option Addr} (h : OwnG w B g A1 A2 A3) {i : Nat} (hi : i < g.users.length) (m : Int) : ∃ gu, A3 = some ⟨gu, 0, none⟩ ∧ B ≤ gu ∧ w.cell? ⟨gu, i * 3 + 1, none⟩ = some (.int .i64 (g.users.getD i dUser).power) ∧ w.frozen? ⟨gu, i * 3 + 1, none⟩ = false ∧ gu < w.heap.size ∧ (∀ b T cs fr, w.heap[b]? = some (.cells cs T fr) → T ≠ 55 → b ≠ gu) ∧
    OwnG (w.setCell ⟨gu, i * 3 + 1, none⟩ (.int .i64 ((g.users.getD i dUser).power + m))) B (grown g i m) A1 A2 A3 := by
  obtain ⟨gu, C, hA, hB, hh, hsz, hc⟩ := h.u (by omega)
  have hne : ∀ b T cs fr, w.heap[b]? = some (.cells cs T fr) → T ≠ 55 → b ≠ gu := fun b T cs fr hb hT e => by
    subst e
    rw [hh] at hb
    injection hb with hb
    injection hb with _ e2 _
    exact hT e2.symm
  have hl : (grown g i m).users.length = g.users.length := grown_len g i m
  refine ⟨gu, hA, hB, ?_, row_frozen hh _, lt_of_cells hh, hne, ⟨fun hn => ?_, fun hn => ?_, fun hn => ?_⟩⟩
  · rw [cell_of_row w gu _ C 55 _ hh, hc i 1 hi (by decide)]
    rfl
  · obtain ⟨gs, C', hA', hB', hh', r⟩ := h.l hn
    exact ⟨gs, C', hA', hB', (Below.heap_setCell w ⟨gu, i * 3 + 1, none⟩ _ gs (hne gs 67 C' _ hh' (by decide))).trans hh', r⟩
  · obtain ⟨gs, C', hA', hB', hh', r⟩ := h.s hn
    exact ⟨gs, C', hA', hB', (Below.heap_setCell w ⟨gu, i * 3 + 1, none⟩ _ gs (hne gs 57 C' _ hh' (by decide))).trans hh', r⟩
  · refine ⟨gu, C.setIfInBounds (i * 3 + 1) (.int .i64 ((g.users.getD i dUser).power + m)), hA, hB, heap_setCell_same w gu _ C 55 _ hh, by rw [hl]; simpa using hsz, fun i' j' hi' hj' => ?_⟩
    rw [hl] at hi'
    have h1 := hc i' j' hi' hj'
    have hlt : i' * 3 + j' < C.size := by
      rcases Nat.lt_or_ge (i' * 3 + j') C.size with h2 | h2
      · exact h2
      · rw [Array.getElem?_eq_none h2] at h1; cases h1
    rw [Array.getElem?_setIfInBounds]
    unfold userCell
    rw [grown_user hi]
    by_cases e : i' = i
    · subst e
      rw [if_pos rfl]
      by_cases ej : j' = 1
      · subst ej
        rw [if_pos rfl, if_pos hlt]
        rfl
      · rw [if_neg (by omega), h1]
        unfold userCell
        rcases (show j' = 0 ∨ j' = 2 by omega) with rfl | rfl <;> rfl
    · rw [if_neg (by omega), if_neg e, h1]
      rfl
/-- a net's ways and their turns -/
theorem usersT_far (F : List MFault) (us : List MUser) (want : List Int) (c : Tab) {x y : Nat} (hy : y ≠ 21) : ∀ k, usersT F 21 us want c k x y = c x y
  | 0 => rfl
  | k + 1 => by
    rw [usersT]
    unfold userT
    split
    · exact usersT_far F us want c hy k
    · unfold addT upd
      rw [if_neg fun h => hy h.2]
      exact usersT_far F us want c hy k
end Go.Proofs.Ytegclodchhcbaaa
