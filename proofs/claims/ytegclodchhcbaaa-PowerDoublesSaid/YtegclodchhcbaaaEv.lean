/- Plain and walk: how harm stands to the level; everything. -/
import Derived.Test.YtegclodchhcbaaaSy
namespace Go.Proofs.Ytegclodchhcbaaa
open Go.RowKit

theorem harmAt_anti {g : MGrid} {F : List MFault} {l l' : Int} (h : l' ≤ l) {i : Nat} (ha : harmAt g F l i = true) : harmAt g F l' i = true := by
  unfold harmAt at ha ⊢
  simp only [Bool.and_eq_true, decide_eq_true_eq] at ha ⊢
  exact ⟨by have := ha.1; omega, ha.2⟩
theorem harmB_anti {g : MGrid} {F : List MFault} {l l' : Int} (h : l' ≤ l) (ha : harmB g F l = true) : harmB g F l' = true := by
  unfold harmB at ha
  obtain ⟨i, hi, hh⟩ := List.any_eq_true.1 ha
  exact harm_yes (List.mem_range.1 hi) (harmAt_anti h hh)
theorem singL_mem {g : MGrid} {l : Int} {L : List MFault} {x : MFault} : ∀ {k : Nat}, x ∈ singL g l L k ↔ ∃ i, i < k ∧ L.getD i dFault = x ∧ harmB g [x] l = true
  | 0 => by simp [singL]
  | k + 1 => by
    have ih := singL_mem (g := g) (l := l) (L := L) (x := x) (k := k)
    rw [singL]
    split
    · rename_i hh
      rw [List.mem_append, ih]
      constructor
      · rintro (⟨i, hi, r⟩ | h)
        · exact ⟨i, by omega, r⟩
        · obtain rfl : x = L.getD k dFault := by simpa using h
          exact ⟨k, by omega, rfl, hh⟩
      · rintro ⟨i, hi, hx, r⟩
        by_cases e : i = k
        · subst e
          exact .inr (by rw [← hx]; simp)
        · exact .inl ⟨i, by omega, hx, r⟩
    · rename_i hh
      rw [ih]
      constructor
      · rintro ⟨i, hi, r⟩
        exact ⟨i, by omega, r⟩
      · rintro ⟨i, hi, hx, r⟩
        by_cases e : i = k
        · subst e
          rw [hx] at hh
          exact absurd r hh
        · exact ⟨i, by omega, hx, r⟩
/-- at a lower level there is all that is at a higher -/
theorem singL_lower {g : MGrid} {l l' : Int} (h : l' ≤ l) {L : List MFault} {k : Nat} {x : MFault} (hx : x ∈ singL g l L k) : x ∈ singL g l' L k := by
  obtain ⟨i, hi, he, hh⟩ := singL_mem.1 hx
  exact singL_mem.2 ⟨i, hi, he, harmB_anti h hh⟩
set_option maxRecDepth 100000 in
theorem everything_any (g : MGrid) (A1 A2 A3 : Option Addr) (c1 c2 c3 : Nat) (w : World) :
    Calls Try.prog 80 #[.agg (gridC g A1 A2 A3 c1 c2 c3)] w fun e w' => e = .returned (.func (.func 100) #[] #[.pointer (some ⟨w.heap.size, 0, none⟩)]) ∧ w' = w.alloc (.cells (gridC g A1 A2 A3 c1 c2 c3) 26) := by
  unfold gridC
  go_enter Try.func80, Try.ntmps80
  go_wp2_with fail
  go_ret
  exact ⟨rfl, rfl⟩
end Go.Proofs.Ytegclodchhcbaaa
