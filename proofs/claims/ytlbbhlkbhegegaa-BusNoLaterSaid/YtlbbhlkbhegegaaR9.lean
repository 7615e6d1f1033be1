/- Plain laws: what the reference adds up is what the program adds up. -/
import Derived.Test.YtlbbhlkbhegegaaR8
import Derived.Test.YtlbbhlkbhegegaaRs1
namespace Go.Proofs.Ytlbbhlkbhegegaa
open Go.RowKit

theorem frames_rank {l : List MFrame} (h : framesB l = true) {j k : Nat} {f g : MFrame} (hj : l[j]? = some f) (hk : l[k]? = some g) (hne : j ≠ k) : f.rank ≠ g.rank := by
  have key : ∀ (j k : Nat) (f g : MFrame), l[j]? = some f → l[k]? = some g → j < k → f.rank ≠ g.rank := fun j k f g hj hk hlt e => by
    have hkl : k < l.length := by
      rcases Nat.lt_or_ge k l.length with h1 | h1
      · exact h1
      · rw [List.getElem?_eq_none h1] at hk; cases hk
    unfold framesB at h
    rw [Bool.and_eq_true, List.all_eq_true] at h
    have h1 := h.2 k (List.mem_range.2 hkl)
    rw [frameOk_of hk, Bool.and_eq_true] at h1
    have h2 := h1.2
    rw [rankIn_take_hit hlt hj e] at h2
    cases h2
  rcases Nat.lt_or_gt_of_ne hne with h1 | h1
  · exact key j k f g hj hk h1
  · exact fun e => key k j g f hk hj h1 e.symm
theorem ltB_higher (l : List MFrame) (r : Int) : ltB l r = higherB l r := rfl
theorem load_le {l : List MFrame} {i : Nat} {own : MFrame} {F : MFrame → Int} (h : framesB l = true) (hi : l[i]? = some own) : ∀ k, k ≤ l.length → loadTo l (leB l own.rank) F k = loadTo l (higherB l own.rank) F k + if i < k then F own * own.size else 0
  | 0, _ => by simp [loadTo]
  | k + 1, hk => by
    have ih := load_le (F := F) h hi k (by omega)
    have hf : l[k]? = some l[k] := List.getElem?_eq_getElem (by omega)
    rw [loadTo_succ hf, loadTo_succ hf, ih, leB_of hf, higherB_of hf]
    by_cases e : k = i
    · subst e
      rw [hi] at hf
      injection hf with hf
      rw [← hf]
      simp
    · have hne := frames_rank h hf hi e
      by_cases h1 : l[k].rank < own.rank
      · rw [decide_eq_true h1, decide_eq_true (p := l[k].rank ≤ own.rank) (by omega)]
        by_cases h2 : i < k
        · rw [if_pos h2, if_pos (by omega : i < k + 1)]; simp; omega
        · rw [if_neg h2, if_neg (by omega : ¬ i < k + 1)]; simp
      · rw [decide_eq_false h1, decide_eq_false (p := l[k].rank ≤ own.rank) (by omega)]
        by_cases h2 : i < k
        · rw [if_pos h2, if_pos (by omega : i < k + 1)]; simp
        · rw [if_neg h2, if_neg (by omega : ¬ i < k + 1)]; simp
/-- the reference's block: of the frames of a greater rank -/
def rblockTo (l : List MFrame) (r : Int) : Nat → Int
  | 0 => 0
  | k + 1 => if r < (l.getD k ⟨0, 0, 0, 0, 0⟩).rank then max (rblockTo l r k) ((l.getD k ⟨0, 0, 0, 0, 0⟩).size - 1) else rblockTo l r k
theorem rblockTo_succ {l : List MFrame} {r : Int} {k : Nat} {f : MFrame} (hf : l[k]? = some f) : rblockTo l r (k + 1) = if r < f.rank then max (rblockTo l r k) (f.size - 1) else rblockTo l r k := by
  rw [rblockTo, show l.getD k ⟨0, 0, 0, 0, 0⟩ = f by rw [List.getD_eq_getElem?_getD, hf]; rfl]
theorem rblock_eq {l : List MFrame} {i : Nat} {own : MFrame} (h : framesB l = true) (hi : l[i]? = some own) : ∀ k, k ≤ l.length → rblockTo l own.rank k = blockTo l (higherB l own.rank) i k
  | 0, _ => rfl
  | k + 1, hk => by
    have hf : l[k]? = some l[k] := List.getElem?_eq_getElem (by omega)
    rw [rblockTo_succ hf, blockTo_succ hf, rblock_eq h hi k (by omega), higherB_of hf]
    by_cases e : k = i
    · subst e
      rw [hi] at hf
      injection hf with hf
      rw [← hf]
      simp
    · have hne := frames_rank h hf hi e
      by_cases h1 : l[k].rank < own.rank
      · rw [if_neg (by omega), if_neg (by rw [decide_eq_true h1]; simp)]
      · rw [if_pos (by omega), if_pos ⟨e, decide_eq_false h1⟩]
theorem rblock_bd {l : List MFrame} {r : Int} (hF : ∀ (k : Nat) (f : MFrame), l[k]? = some f → FOk f) : ∀ k, k ≤ l.length → 0 ≤ rblockTo l r k ∧ rblockTo l r k ≤ 999
  | 0, _ => by simp [rblockTo]
  | k + 1, hk => by
    have h1 := rblock_bd (r := r) hF k (by omega)
    have hf : l[k]? = some l[k] := List.getElem?_eq_getElem (by omega)
    have h2 := (hF k _ hf).1
    rw [rblockTo_succ hf]
    split <;> omega
/-- the reference's sums -/
def rbusyS (l : List MFrame) (b : Int) (own : MFrame) (t : Int) : Int := b + loadTo l (leB l own.rank) (manyUp t) l.length
theorem rbusy_eq {l : List MFrame} {i : Nat} {own : MFrame} {b : Int} (h : framesB l = true) (hi : l[i]? = some own) (hil : i < l.length) : rbusyS l b own = busyS l (higherB l own.rank) b own := by
  funext t
  unfold rbusyS busyS
  rw [load_le h hi l.length (Nat.le_refl _), if_pos hil]
  omega
theorem rwait_eq (l : List MFrame) (own : MFrame) (b q : Int) : (fun t => b + q * own.size + loadTo l (ltB l own.rank) (manyAt t) l.length) = waitS l (higherB l own.rank) b own q := rfl
theorem respZ_of {l : List MFrame} {i : Nat} {own : MFrame} (h : framesB l = true) (hi : l[i]? = some own) (hil : i < l.length) : respZ l i =
    (match settleS (rbusyS l (rblockTo l own.rank l.length) own) 1000002 1 with
      | none => none
      | some busy => longTo l (higherB l own.rank) (rblockTo l own.rank l.length) own ((busy + own.jitter + own.every - 1) / own.every).toNat).getD (-1) := by
  have e : l.getD i ⟨0, 0, 0, 0, 0⟩ = own := by rw [List.getD_eq_getElem?_getD, hi]; rfl
  unfold respZ
  rw [respI_of hi, rblock_eq h hi l.length (Nat.le_refl _), rbusy_eq h hi hil]
  simp only [respS, e]
  rfl
end Go.Proofs.Ytlbbhlkbhegegaa
