/- Arguments opened: trees of forks. -/
import Derived.Test.YtonpemikodajdaaDoorOg
import Derived.Test.YtonpemikodajdaaDoorRc
namespace Go.Proofs.YtonpemikodajdaaDoor
open Go.RowKit Go.ChangeShapes Go.WideShapes Go.ChangeAt Go.Deep Go.Joins

section
variable {H : Type} {enc : TypeId × Value → H} {w : World} {base : Nat} {spare : Nat → Bool} {held : Bool}
theorem open_ints24 {fuel : Nat} {cs : List Value} {x : DataW H × List MemPlace} (h : DataW.trod enc Tryd.prog w base spare held fuel 24 cs = some x) :
    ∃ (A : Option Addr) (cap : Nat) (l : List Int), cs = [.slice A l.length cap] ∧ IntsA w w.heap.size A l := by
  obtain ⟨A, cap, l, hcs, _, _, hI, _⟩ := open_intsA Tryd.underlying24 Tryd.underlying3 (by kernel_rfl) h
  exact ⟨A, cap, l, hcs, hI⟩
set_option maxRecDepth 100000 in
theorem open_tree {fuel : Nat} {cs : List Value} {x : DataW H × List MemPlace} (h : DataW.trod enc Tryd.prog w base spare held fuel 38 cs = some x) :
    ∃ (A : Option Addr) (cap : Nat) (F : List MFork), cs = [.slice A F.length cap] ∧ ForksA w w.heap.size A F := by
  obtain ⟨A2, n2, c2, F, hcs, hl2, hm2, hS2, hF2⟩ := open_rows Tryd.underlying38 Tryd.underlying110 (by kernel_rfl) (by kernel_rfl) (by decide) h
  have hf : ∀ i, i < n2 → F i 0 = .int .i64 (numV (F i 0)) := fun i hi => by
    obtain ⟨n, y, hy⟩ := hF2 i 0 _ hi rfl
    exact (numV_of Tryd.underlying3 hy).1
  have hp : ∀ j, (j = 1 ∨ j = 2) → ∀ i, ∃ (A : Option Addr) (cap : Nat) (l : List Int), i < n2 → F i j = .slice A l.length cap ∧ l.length ≤ cap ∧ IntsA w w.heap.size A l := fun j hj i => by
    by_cases hi : i < n2
    · rcases hj with rfl | rfl
      · obtain ⟨n, y, hy⟩ := hF2 i 1 _ hi rfl
        obtain ⟨A, cap, l, hcs, hl, _, hA, _⟩ := open_intsA Tryd.underlying24 Tryd.underlying3 (by kernel_rfl) hy
        injection hcs with hcs
        exact ⟨A, cap, l, fun _ => ⟨hcs, hl, hA⟩⟩
      · obtain ⟨n, y, hy⟩ := hF2 i 2 _ hi rfl
        obtain ⟨A, cap, l, hcs, hl, _, hA, _⟩ := open_intsA Tryd.underlying24 Tryd.underlying3 (by kernel_rfl) hy
        injection hcs with hcs
        exact ⟨A, cap, l, fun _ => ⟨hcs, hl, hA⟩⟩
    · exact ⟨none, 0, [], fun h => absurd h hi⟩
  have h1 := hp 1 (.inl rfl)
  have h2 := hp 2 (.inr rfl)
  let pA := fun i => Classical.choose (h1 i)
  let pC := fun i => Classical.choose (Classical.choose_spec (h1 i))
  let pL := fun i => Classical.choose (Classical.choose_spec (Classical.choose_spec (h1 i)))
  have hpp : ∀ i, i < n2 → F i 1 = .slice (pA i) (pL i).length (pC i) ∧ (pL i).length ≤ pC i ∧ IntsA w w.heap.size (pA i) (pL i) := fun i => Classical.choose_spec (Classical.choose_spec (Classical.choose_spec (h1 i)))
  let qA := fun i => Classical.choose (h2 i)
  let qC := fun i => Classical.choose (Classical.choose_spec (h2 i))
  let qL := fun i => Classical.choose (Classical.choose_spec (Classical.choose_spec (h2 i)))
  have hqq : ∀ i, i < n2 → F i 2 = .slice (qA i) (qL i).length (qC i) ∧ (qL i).length ≤ qC i ∧ IntsA w w.heap.size (qA i) (qL i) := fun i => Classical.choose_spec (Classical.choose_spec (Classical.choose_spec (h2 i)))
  refine ⟨A2, c2, (List.range n2).map fun i => ⟨numV (F i 0), pL i, qL i⟩, by simpa using hcs, by simp; omega, fun i => ((pA i, pC i), (qA i, qC i)), ?_, ?_⟩
  · intro hn0
    simp only [List.length_map, List.length_range] at hn0 ⊢
    obtain ⟨b, off, hA, hlt, hc⟩ := hS2 hn0
    refine ⟨b, off, hA, hlt, fun i j hi hj => ?_⟩
    have h1 := hc i j hi hj
    refine h1.trans ?_
    unfold forkCell
    rw [range_getD _ _ hi]
    match j, hj with
    | 0, _ => rw [hf i hi]; rfl
    | 1, _ => rw [(hpp i hi).1]; rfl
    | 2, _ => rw [(hqq i hi).1]; rfl
  · intro i hi
    simp only [List.length_map, List.length_range] at hi
    unfold fk
    rw [range_getD _ _ hi]
    exact ⟨⟨(hpp i hi).2.1, (hpp i hi).2.2⟩, ⟨(hqq i hi).2.1, (hqq i hi).2.2⟩⟩
end
end Go.Proofs.YtonpemikodajdaaDoor
