/- Walks: ignitionlaw04.BusRanks. -/
import Derived.Test.YtlbbhlkbhegegaaW2
import Derived.Test.YtlbbhlkbhegegaaR12
import Derived.Test.YtlbbhlkbhegegaaRk4
namespace Go.Proofs.Ytlbbhlkbhegegaa
open Go.RowKit

set_option maxRecDepth 100000 in
set_option maxHeartbeats 2000000 in
theorem busRanks_any (A : Option Addr) (cap : Nat) (l : List MFrame) (w : World) (h : FramesA w w.heap.size A l) (hcap : l.length ≤ cap) :
    Calls Try.prog 7 #[.slice A l.length cap] w fun e w' => e = .returned (.bool true) ∧ Below w.heap.size w w' := by
  have HH := Lib.hid (heavy_any A cap l w h)
  obtain ⟨⟨x, c⟩, hp⟩ : ∃ p, rankOut l = p := ⟨_, rfl⟩
  have H1 : Hid (∀ w1, Below w.heap.size w w1 → Calls Try.prog 31 #[.slice A l.length cap] w1 (RetLE w1 x c)) := fun w1 hb => rank_any A cap l w1 ((h.keep hb).more hb.size) hcap hp
  have H2 : Hid (∀ w1, Below w.heap.size w w1 → Calls Try.prog 32 #[.slice A l.length cap] w1 (RetLE w1 x c)) := fun w1 hb => rRank_any A cap l w1 ((h.keep hb).more hb.size) hp
  have hlen := h.1
  unfold maxLen at hlen
  clear hp
  have hcc : (c == c) = true := by simp
  have s1 : Hid (sameL x x = true) := by unfold sameL; exact decide_eq_true rfl
  go_enter Try.func7, Try.ntmps7
  go_wp2_with fail
  refine HH.out.mono ?_
  rintro e w1 ⟨⟨r, rfl⟩, hb1⟩
  by_cases hg : r = true ∨ (8 < l.length ∧ l.length ≤ 40)
  · rcases r with _ | _
    · have h8 : 8 < l.length := by simpa using (hg.resolve_left (by simp)).1
      have h40 : l.length ≤ 40 := (hg.resolve_left (by simp)).2
      clear hg
      go_wp2_with fail
      refine (works_any w1).mono ?_
      rintro e w10 ⟨rfl, hb10⟩
      have hb11 := hb1.trans (hb10.mono hb1.size)
      clear hb1 hb10
      go_wp2_with fail
      go_ret
      exact ⟨rfl, hb11⟩
    · clear hg
      go_wp2_with fail
      refine (works_any w1).mono ?_
      rintro e w10 ⟨rfl, hb10⟩
      have hb11 := hb1.trans (hb10.mono hb1.size)
      clear hb1 hb10
      go_wp2_with fail
      go_ret
      exact ⟨rfl, hb11⟩
  · obtain rfl : r = false := by
      rcases r with _ | _
      · rfl
      · exact absurd (Or.inl rfl) hg
    have hg2 : l.length ≤ 8 ∨ 40 < l.length := by
      by_cases h8 : l.length ≤ 8
      · exact Or.inl h8
      · right
        by_cases h40 : l.length ≤ 40
        · exact absurd (Or.inr ⟨by omega, h40⟩) hg
        · omega
    clear hg
    rcases hg2 with h8 | h40
    all_goals
      try have h9 : 8 < l.length := by omega
      go_wp2_with fail
      refine (H1.out _ hb1).mono ?_
      rintro e w4 ⟨hb4, X, xk, rfl, _, hX⟩
      have hb5 := hb1.trans (hb4.mono hb1.size)
      clear hb1 hb4
      go_wp2_with fail
      refine (H2.out _ hb5).mono ?_
      rintro e w5 ⟨hb6, Y, yk, rfl, _, hY⟩
      have hX5 := hX.below hb6 (Nat.le_refl _)
      have hb7 := hb5.trans (hb6.mono hb5.size)
      clear hb5 hb6 hX
      have hc1 := same_b (cap := xk) (cap' := yk) hX5 hY rfl rfl s1.out
      go_wp2_with fail
      refine hc1.mono ?_
      rintro e w6 ⟨rfl, hb8⟩
      have hb9 := hb7.trans (hb8.mono hb7.size)
      clear hc1 hb7 hb8 hX5 hY
      go_wp2_with fail
      refine (works_any w6).mono ?_
      rintro e w10 ⟨rfl, hb10⟩
      have hb11 := hb9.trans (hb10.mono hb9.size)
      clear hb9 hb10
      go_wp2_with fail
      go_ret
      exact ⟨rfl, hb11⟩
theorem busRanks_row (A : Option Addr) (cap : Nat) (l : List MFrame) (w : World) (hcap : l.length ≤ cap) (_ : cap ≤ maxLen) (h : FramesA w w.heap.size A l)
    (_ : ∀ f ∈ l, (Lit.int .i64 f.size).wf = true ∧ (Lit.int .i64 f.every).wf = true ∧ (Lit.int .i64 f.jitter).wf = true ∧ (Lit.int .i64 f.due).wf = true ∧ (Lit.int .i64 f.rank).wf = true) :
    Calls Try.prog 7 #[.slice A l.length cap] w fun e w' => e = .returned (.bool true) ∧ Below w.heap.size w w' := busRanks_any A cap l w h hcap
end Go.Proofs.Ytlbbhlkbhegegaa
