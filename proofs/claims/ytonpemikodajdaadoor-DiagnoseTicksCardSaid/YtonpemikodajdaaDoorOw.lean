/- Arguments opened: monitors; rows of numbers. -/
import Derived.Test.YtonpemikodajdaaDoorOg
import Derived.Test.YtonpemikodajdaaDoorWa
namespace Go.Proofs.YtonpemikodajdaaDoor
open Go.RowKit Go.ChangeShapes Go.WideShapes Go.ChangeAt Go.Deep Go.Joins

section
variable {H : Type} {enc : TypeId × Value → H} {w : World} {base : Nat} {spare : Nat → Bool} {held : Bool}
theorem open_mons {fuel : Nat} {cs : List Value} {x : DataW H × List MemPlace} (h : DataW.trod enc Tryd.prog w base spare held fuel 22 cs = some x) :
    ∃ (A : Option Addr) (cap : Nat) (l : List MMon), cs = [.slice A l.length cap] ∧ MonsA w w.heap.size A l := by
  obtain ⟨A, len, cap, F, hcs, hl, hm, hS, hF⟩ := open_rows Tryd.underlying22 Tryd.underlying44 (by kernel_rfl) (by kernel_rfl) (by decide) h
  have hn : ∀ i j, i < len → j < 7 → F i j = .int .i64 (numV (F i j)) := fun i j hi hj => by
    match j, hj with
    | 0, _ => obtain ⟨n, y, hy⟩ := hF i 0 _ hi rfl; exact (numV_of Tryd.underlying3 hy).1
    | 1, _ => obtain ⟨n, y, hy⟩ := hF i 1 _ hi rfl; exact (numV_of Tryd.underlying3 hy).1
    | 2, _ => obtain ⟨n, y, hy⟩ := hF i 2 _ hi rfl; exact (numV_of Tryd.underlying3 hy).1
    | 3, _ => obtain ⟨n, y, hy⟩ := hF i 3 _ hi rfl; exact (numV_of Tryd.underlying3 hy).1
    | 4, _ => obtain ⟨n, y, hy⟩ := hF i 4 _ hi rfl; exact (numV_of Tryd.underlying3 hy).1
    | 5, _ => obtain ⟨n, y, hy⟩ := hF i 5 _ hi rfl; exact (numV_of Tryd.underlying3 hy).1
    | 6, _ => obtain ⟨n, y, hy⟩ := hF i 6 _ hi rfl; exact (numV_of Tryd.underlying3 hy).1
  refine ⟨A, cap, (List.range len).map fun i => ⟨numV (F i 0), numV (F i 1), numV (F i 2), numV (F i 3), numV (F i 4), numV (F i 5), numV (F i 6)⟩, by simpa using hcs, by simp; omega, fun hn0 => ?_⟩
  simp only [List.length_map, List.length_range] at hn0 ⊢
  obtain ⟨b, off, hA, hlt, hc⟩ := hS hn0
  refine ⟨b, off, hA, hlt, fun i j hi hj => ?_⟩
  have h2 := hc i j hi hj
  rw [hn i j hi hj] at h2
  refine h2.trans ?_
  unfold monCell
  rw [range_getD _ _ hi]
  match j, hj with
  | 0, _ => rfl
  | 1, _ => rfl
  | 2, _ => rfl
  | 3, _ => rfl
  | 4, _ => rfl
  | 5, _ => rfl
  | 6, _ => rfl
theorem open_lists {fuel : Nat} {cs : List Value} {x : DataW H × List MemPlace} (h : DataW.trod enc Tryd.prog w base spare held fuel 23 cs = some x) :
    ∃ (A : Option Addr) (cap : Nat) (rs : List (List Int)), cs = [.slice A rs.length cap] ∧ RowsA w w.heap.size A rs := by
  rcases open_slice Tryd.underlying23 h with ⟨hcs, _⟩ | ⟨a, len, cap, m, n, D, Pl, hcs, hb, hl, hm, hmm, hx, hi⟩
  · exact ⟨none, 0, [], hcs, Nat.zero_le _, fun _ => (none, 0), (fun hn => by cases hn), fun i hi => by cases hi⟩
  · have hlm : len ≤ m := by rw [hmm]; split <;> omega
    have hC : Tryd.prog.cellsOf 24 = 1 := by kernel_rfl
    have hp : ∀ i, ∃ (A : Option Addr) (cp : Nat) (l : List Int), i < len → w.cell? (a.add i) = some (.slice A l.length cp) ∧ l.length ≤ cp ∧ IntsA w w.heap.size A l := fun i => by
      by_cases him : i < len
      · obtain ⟨cs', hc, ht'⟩ := hi i (by omega)
        rw [hC] at hc
        obtain ⟨_, hcl, hat⟩ := World.cells?_some hc
        have hv := hat 0 (by omega)
        obtain ⟨A, cp, l, hcs', hlc, _, hA, _⟩ := open_intsA Tryd.underlying24 Tryd.underlying3 (by kernel_rfl) ht'
        refine ⟨A, cp, l, fun _ => ⟨?_, hlc, hA⟩⟩
        rw [hcs', add_zero_, Nat.mul_one] at hv
        exact hv
      · exact ⟨none, 0, [], fun h => absurd h him⟩
    let pA := fun i => Classical.choose (hp i)
    let pC := fun i => Classical.choose (Classical.choose_spec (hp i))
    let pL := fun i => Classical.choose (Classical.choose_spec (Classical.choose_spec (hp i)))
    have hpp : ∀ i, i < len → w.cell? (a.add i) = some (.slice (pA i) (pL i).length (pC i)) ∧ (pL i).length ≤ pC i ∧ IntsA w w.heap.size (pA i) (pL i) := fun i => Classical.choose_spec (Classical.choose_spec (Classical.choose_spec (hp i)))
    refine ⟨some a, cap, (List.range len).map pL, by simpa using hcs, by simp; omega, fun i => (pA i, pC i), ?_, ?_⟩
    · intro hn0
      simp only [List.length_map, List.length_range] at hn0 ⊢
      have hv0 := (hpp 0 hn0).1
      rw [add_zero_] at hv0
      have hsp := spot_of_cell hv0
      have hlt := World.block_lt_of_cell? w _ hv0
      obtain ⟨b, off, sp⟩ := a
      have hsp : sp = none := hsp
      subst hsp
      refine ⟨b, off, rfl, hlt, fun i j hi2 hj => ?_⟩
      obtain rfl : j = 0 := by omega
      have h1 := (hpp i hi2).1
      rw [add_none] at h1
      rw [range_getD _ _ hi2, Nat.mul_one, Nat.add_zero]
      exact h1
    · intro i hi2
      simp only [List.length_map, List.length_range] at hi2
      rw [range_getD _ _ hi2]
      exact ⟨(hpp i hi2).2.1, (hpp i hi2).2.2⟩
end
end Go.Proofs.YtonpemikodajdaaDoor
