/- Arguments opened: rows of ints. -/
import Derived.Test.YtlbbhlkbhegegaaO1
import Derived.Test.YtlbbhlkbhegegaaYh
namespace Go.Proofs.Ytlbbhlkbhegegaa
open Go.RowKit Go.ChangeShapes Go.WideShapes Go.ChangeAt Go.Deep Go.Joins
section
variable {H : Type} {enc : TypeId × Value → H} {w : World} {base : Nat} {spare : Nat → Bool} {held : Bool}
set_option maxRecDepth 100000 in
theorem open_intss {fuel : Nat} {cs : List Value} {x : DataW H × List MemPlace} (h : DataW.trod enc Try.prog w base spare held fuel 69 cs = some x) :
    ∃ (A : Option Addr) (cap : Nat) (l : List (List Int)), cs = [.slice A l.length cap] ∧ l.length ≤ cap ∧ cap ≤ maxLen ∧ RowsT w w.heap.size A l ∧ True := by
  rcases open_slice Try.underlying69 h with ⟨hcs, _⟩ | ⟨a, len, cap, m, n, D, Pl, hcs, hb, hl, hm, hmm, hx, hi⟩
  · exact ⟨none, 0, [], hcs, Nat.le_refl _, Nat.zero_le _, ⟨Nat.zero_le _, fun _ => (none, 0), fun hn => absurd hn (by simp), fun i hi => absurd hi (by simp)⟩, trivial⟩
  · have hlm : len ≤ m := by rw [hmm]; split <;> omega
    have hC : Try.prog.cellsOf 28 = 1 := by kernel_rfl
    have hp : ∀ i, ∃ (A : Option Addr) (cap : Nat) (l : List Int), i < len → w.cell? (a.add i) = some (.slice A l.length cap) ∧ l.length ≤ cap ∧ IntsA w w.heap.size A l := fun i => by
      by_cases hlt : i < len
      · obtain ⟨cs', hc, ht'⟩ := hi i (by omega)
        rw [hC, Nat.mul_one] at hc
        obtain ⟨_, hcl, hat⟩ := World.cells?_some hc
        obtain ⟨A, cp, l, hcs', hll, _, hI, _⟩ := open_intsA Try.underlying28 Try.underlying3 (by kernel_rfl) ht'
        subst hcs'
        have h0 := hat 0 (by omega)
        rw [add_zero_] at h0
        exact ⟨A, cp, l, fun _ => ⟨h0, hll, hI⟩⟩
      · exact ⟨none, 0, [], fun h => absurd h hlt⟩
    let pA := fun i => Classical.choose (hp i)
    let pC := fun i => Classical.choose (Classical.choose_spec (hp i))
    let pL := fun i => Classical.choose (Classical.choose_spec (Classical.choose_spec (hp i)))
    have hpp : ∀ i, i < len → w.cell? (a.add i) = some (.slice (pA i) (pL i).length (pC i)) ∧ (pL i).length ≤ pC i ∧ IntsA w w.heap.size (pA i) (pL i) := fun i => Classical.choose_spec (Classical.choose_spec (Classical.choose_spec (hp i)))
    have hlen : ((List.range len).map pL).length = len := by simp
    refine ⟨some a, cap, (List.range len).map pL, by rw [hlen]; exact hcs, by rw [hlen]; exact hl, hm, ⟨by rw [hlen]; omega, fun i => (pA i, pC i), fun hn => ?_, fun i hi' => ?_⟩, trivial⟩
    · rw [hlen] at hn ⊢
      have h0 := (hpp 0 hn).1
      rw [add_zero_] at h0
      have hsp := spot_of_cell h0
      have hlt := World.block_lt_of_cell? w _ h0
      obtain ⟨b, off, sp⟩ := a
      have hsp : sp = none := hsp
      subst hsp
      refine ⟨b, off, rfl, hlt, fun i j h1 h2 => ?_⟩
      have h3 := (hpp i h1).1
      rw [add_none] at h3
      show _ = some (Value.slice (pA i) (((List.range len).map pL).getD i []).length (pC i))
      rw [range_getD _ _ h1, show off + i * 1 + j = off + i by omega]
      exact h3
    · rw [hlen] at hi'
      rw [range_getD _ _ hi']
      exact (hpp i hi').2
end
end Go.Proofs.Ytlbbhlkbhegegaa
