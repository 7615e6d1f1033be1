/- Plain laws on settle. -/
import Derived.Test.YtlbbhlkbhegegaaR5
namespace Go.Proofs.Ytlbbhlkbhegegaa
open Go.RowKit
theorem settle_fix {F : Int → Int} {x : Int} : ∀ (m : Nat) (n : Int), settleS F m n = some x → F x = x ∧ x ≤ 1000000
  | 0, _, h => by simp [settleS] at h
  | m + 1, n, h => by
    rw [settleS] at h
    by_cases h1 : n ≤ 1000000
    · rw [if_pos h1] at h
      by_cases h2 : F n = n
      · rw [if_pos h2] at h
        injection h with h
        subst h
        exact ⟨h2, h1⟩
      · rw [if_neg h2] at h
        exact settle_fix m _ h
    · rw [if_neg h1] at h
      cases h
theorem settle_ge {F : Int → Int} {x n0 : Int} (hF : ∀ y, n0 ≤ y → n0 ≤ F y) : ∀ (m : Nat) (n : Int), n0 ≤ n → settleS F m n = some x → n0 ≤ x
  | 0, _, _, h => by simp [settleS] at h
  | m + 1, n, hn, h => by
    rw [settleS] at h
    by_cases h1 : n ≤ 1000000
    · rw [if_pos h1] at h
      by_cases h2 : F n = n
      · rw [if_pos h2] at h
        injection h with h
        subst h
        exact hn
      · rw [if_neg h2] at h
        exact settle_ge hF m _ (hF n hn) h
    · rw [if_neg h1] at h
      cases h
end Go.Proofs.Ytlbbhlkbhegegaa
