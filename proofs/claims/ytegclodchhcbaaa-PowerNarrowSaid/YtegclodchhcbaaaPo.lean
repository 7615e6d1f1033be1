/- Plain: the lines that are too narrow. -/
import Derived.Test.YtegclodchhcbaaaPn
import Derived.Test.YtegclodchhcbaaaUs
namespace Go.Proofs.Ytegclodchhcbaaa

noncomputable def narB (g : MGrid) (i : Nat) : Bool := @decide (∀ S : Nat → Bool, (∀ S' : Nat → Bool, cutG g [] (allL g.users.length) S ≤ cutG g [] (allL g.users.length) S') → 1 ≤ crossX (g.lines.getD i dLine) S) (Classical.propDecidable _)
theorem narB_sum {g : MGrid} {n : Nat} {sum : Int} {R : Nat → Bool} (h : MostG g [] (allL g.users.length) n sum R) (i : Nat) : narB g i = true ↔ ∀ S : Nat → Bool, cutG g [] (allL g.users.length) S = sum → 1 ≤ crossX (g.lines.getD i dLine) S := by
  unfold narB
  rw [@decide_eq_true_iff _ (Classical.propDecidable _)]
  constructor
  · intro h1 S hS
    exact h1 S fun S' => by rw [hS]; exact h.le S'
  · intro h1 S hS
    refine h1 S (Int.le_antisymm ?_ (h.le S))
    have := hS R
    rw [h.is] at this
    exact this
theorem narB_wide {g : MGrid} {n n' : Nat} {i : Nat} (hi : i < g.lines.length) {sum sum' : Int} {R R' : Nat → Bool} (h : MostG g [] (allL g.users.length) n sum R) (h' : MostG (wider g i) [] (allL g.users.length) n' sum' R') : narB g i = decide (sum < sum') := by
  rw [Bool.eq_iff_iff, narB_sum h, decide_eq_true_iff, wider_more hi h h']
theorem allL_want (g : MGrid) : WantOk g (allL g.users.length) := fun x hx => by have := allL_mem.1 hx; omega
/-- the first k lines' -/
noncomputable def narL (g : MGrid) : Nat → List Int
  | 0 => []
  | k + 1 => if narB g k = true then narL g k ++ [(k : Int)] else narL g k
theorem narL_len (g : MGrid) : ∀ k, (narL g k).length ≤ k
  | 0 => Nat.le_refl _
  | k + 1 => by
    have := narL_len g k
    rw [narL]
    split
    · rw [List.length_append]; simp; omega
    · omega
theorem wider_ok {g : MGrid} {n i : Nat} (hg : GridOk g n) (hc : ∀ l ∈ g.lines, l.limit ≤ 100000) (hi : i < g.lines.length) : GridOk (wider g i) n := by
  have hl : (wider g i).lines.length = g.lines.length := by unfold wider; simp
  refine ⟨hg.nodes, hg.few, by rw [hl]; exact hg.nl, hg.ns, hg.nu, fun l hm => ?_, hg.src, hg.user⟩
  have hm' : l ∈ g.lines.set i { g.lines.getD i dLine with limit := (g.lines.getD i dLine).limit + 1 } := hm
  rcases List.mem_or_eq_of_mem_set hm' with h | h
  · exact hg.line l h
  · have h1 := hg.line _ (getD_in hi dLine)
    have h2 := hc _ (getD_in hi dLine)
    rw [h]
    exact ⟨h1.1, h1.2.1, h1.2.2.1, by show 0 ≤ (g.lines.getD i dLine).limit + 1; omega, by show (g.lines.getD i dLine).limit + 1 ≤ 100001; omega⟩
theorem checkG_lim {g : MGrid} (h : checkG g = 0) : ∀ l ∈ g.lines, l.limit ≤ 100000 := fun l hl => by
  unfold checkG at h
  split at h
  · exact absurd h (by decide)
  · split at h
    · exact absurd h (by decide)
    · split at h
      · exact absurd h (by decide)
      · rename_i h3
        simp only [Bool.not_eq_false] at h3
        have := List.all_eq_true.1 h3 l hl
        unfold lineB at this
        simp only [Bool.and_eq_true, inB_iff, Bool.not_eq_true'] at this
        omega
end Go.Proofs.Ytegclodchhcbaaa
