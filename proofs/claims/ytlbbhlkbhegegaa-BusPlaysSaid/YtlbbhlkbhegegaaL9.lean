/- Walks: ignitionlaw04.BusPlays. -/
import Derived.Test.YtlbbhlkbhegegaaKs2
import Derived.Test.YtlbbhlkbhegegaaPl5
import Derived.Test.YtlbbhlkbhegegaaW2
namespace Go.Proofs.Ytlbbhlkbhegegaa
open Go.RowKit

set_option maxRecDepth 100000 in
set_option maxHeartbeats 2000000 in
theorem busPlays_any (A : Option Addr) (cap : Nat) (l : List MFrame) (G : Option Addr) (gcap : Nat) (rs : List MGate) (O : Option Addr) (ocap : Nat) (os : List Int) (w : World) (h : FramesA w w.heap.size A l) (hcap : l.length ≤ cap) (hG : GatesA w w.heap.size G rs) (hm : rs.length ≤ maxLen) (hO : IntsA w w.heap.size O os) :
    Calls Try.prog 11 #[.slice A l.length cap, .slice G rs.length gcap, .slice O os.length ocap] w fun e w' => e = .returned (.bool true) ∧ Below w.heap.size w w' := by
  obtain ⟨c, hc⟩ : ∃ c, relS l rs = c := ⟨_, rfl⟩
  obtain ⟨fc, hfc⟩ : ∃ fc, fcheckS l = fc := ⟨_, rfl⟩
  obtain ⟨R, hR⟩ : ∃ R, playL l rs = R := ⟨_, rfl⟩
  obtain ⟨⟨kb, kc⟩, hk⟩ : ∃ p, keepsS l rs os = p := ⟨_, rfl⟩
  have H1 : Hid (∀ w1, Below w.heap.size w w1 → Calls Try.prog 37 #[.slice A l.length cap] w1 fun e w' => e = .returned (.int .i64 fc) ∧ Below w1.heap.size w1 w') := fun w1 hb => by rw [← hfc]; exact fcheck_any A cap l w1 ((h.keep hb).more hb.size) hcap
  have H2 : Hid (∀ w1, Below w.heap.size w w1 → Calls Try.prog 23 #[.slice A l.length cap] w1 fun e w' => e = .returned (.int .i64 fc) ∧ Below w1.heap.size w1 w') := fun w1 hb => by rw [← hfc]; exact rfcheck_any A cap l w1 ((h.keep hb).more hb.size)
  have H3 : Hid (∀ w1, Below w.heap.size w w1 → Calls Try.prog 36 #[.slice A l.length cap, .slice G rs.length gcap] w1 (RetLE w1 R c)) := fun w1 hb => by rw [← hR, ← hc]; exact play_any A cap l G gcap rs w1 ((h.keep hb).more hb.size) hcap ((SlA.below hG hb (Nat.le_refl _)).more hb.size) hm
  have H4 : Hid (∀ w1, Below w.heap.size w w1 → Calls Try.prog 38 #[.slice A l.length cap, .slice G rs.length gcap] w1 (RetLE w1 R c)) := fun w1 hb => by rw [← hR, ← hc]; exact rplay_any A cap l G gcap rs w1 ((h.keep hb).more hb.size) ((SlA.below hG hb (Nat.le_refl _)).more hb.size) hm
  have H5 : Hid (∀ w1, Below w.heap.size w w1 → Calls Try.prog 39 #[.slice A l.length cap, .slice G rs.length gcap, .slice O os.length ocap] w1 fun e w' => e = .returned (.tuple #[.bool kb, .int .i64 kc]) ∧ Below w1.heap.size w1 w') := fun w1 hb => keeps_any A cap l G gcap rs O ocap os w1 ((h.keep hb).more hb.size) hcap ((SlA.below hG hb (Nat.le_refl _)).more hb.size) hm ((hO.below hb (Nat.le_refl _)).more hb.size) hk
  have H6 : Hid (∀ w1, Below w.heap.size w w1 → Calls Try.prog 40 #[.slice A l.length cap, .slice G rs.length gcap, .slice O os.length ocap] w1 fun e w' => e = .returned (.tuple #[.bool kb, .int .i64 kc]) ∧ Below w1.heap.size w1 w') := fun w1 hb => rkeeps_any A cap l G gcap rs O ocap os w1 ((h.keep hb).more hb.size) ((SlA.below hG hb (Nat.le_refl _)).more hb.size) hm ((hO.below hb (Nat.le_refl _)).more hb.size) hk
  have s1 : Hid (sameL R R = true) := by unfold sameL; exact decide_eq_true rfl
  clear hR hc hfc hk h hG hO hcap
  have hff : (fc != fc) = false := by simp
  have hcc : (c != c) = false := by simp
  have hkk : (kb == kb) = true := by simp
  have hkc : (kc == kc) = true := by simp
  unfold maxLen at hm
  by_cases h1 : 100 < rs.length ∧ rs.length ≤ 500
  · obtain ⟨h1, h2⟩ := h1
    go_enter Try.func11, Try.ntmps11
    go_wp2_with fail
    refine (works_any w).mono ?_
    rintro e w10 ⟨rfl, hb10⟩
    go_wp2_with fail
    go_ret
    exact ⟨rfl, hb10⟩
  · have hcase : (rs.length ≤ 100) ∨ (100 < rs.length ∧ 500 < rs.length) := by omega
    clear h1
    rcases hcase with h1 | ⟨h1, h2⟩
    all_goals
      go_enter Try.func11, Try.ntmps11
      go_wp2_with fail
      refine (H1.out _ (Below.refl _ _)).mono ?_
      rintro e w1 ⟨rfl, hb1⟩
      go_wp2_with fail
      refine (H2.out _ hb1).mono ?_
      rintro e w2 ⟨rfl, hb2⟩
      have hb3 := hb1.trans (hb2.mono hb1.size)
      clear hb1 hb2
      go_wp2_with fail
      refine (H3.out _ hb3).mono ?_
      rintro e w3 ⟨hb4, X, xk, rfl, _, hX⟩
      have hb5 := hb3.trans (hb4.mono hb3.size)
      clear hb3 hb4
      go_wp2_with fail
      refine (H4.out _ hb5).mono ?_
      rintro e w4 ⟨hb6, Y, yk, rfl, _, hY⟩
      have hX5 := hX.below hb6 (Nat.le_refl _)
      have hb7 := hb5.trans (hb6.mono hb5.size)
      clear hb5 hb6 hX
      have hc1 := same_b (cap := xk) (cap' := yk) hX5 hY rfl rfl s1.out
      go_wp2_with fail
      refine hc1.mono ?_
      rintro e w6 ⟨rfl, hb8⟩
      have hb9 := hb7.trans (hb8.mono hb7.size)
      clear hc1 hb7 hb8 hX5 hY
      go_wp2_with fail
      refine (H5.out _ hb9).mono ?_
      rintro e w7 ⟨rfl, hb4⟩
      have hb5 := hb9.trans (hb4.mono hb9.size)
      clear hb9 hb4
      go_wp2_with fail
      refine (H6.out _ hb5).mono ?_
      rintro e w8 ⟨rfl, hb6⟩
      have hb7 := hb5.trans (hb6.mono hb5.size)
      clear hb5 hb6
      go_wp2_with fail
      refine (works_any w8).mono ?_
      rintro e w10 ⟨rfl, hb10⟩
      have hb11 := hb7.trans (hb10.mono hb7.size)
      clear hb7 hb10
      go_wp2_with fail
      go_ret
      exact ⟨rfl, hb11⟩
theorem busPlays_row (A : Option Addr) (cap : Nat) (l : List MFrame) (G : Option Addr) (gcap : Nat) (rs : List MGate) (O : Option Addr) (ocap : Nat) (os : List Int) (w : World) (hcap : l.length ≤ cap) (_ : cap ≤ maxLen) (h : FramesA w w.heap.size A l)
    (_ : ∀ f ∈ l, (Lit.int .i64 f.size).wf = true ∧ (Lit.int .i64 f.every).wf = true ∧ (Lit.int .i64 f.jitter).wf = true ∧ (Lit.int .i64 f.due).wf = true ∧ (Lit.int .i64 f.rank).wf = true)
    (hgc : rs.length ≤ gcap) (hgm : gcap ≤ maxLen) (hG : GatesA w w.heap.size G rs) (_ : ∀ g ∈ rs, (Lit.int .i64 g.rate).wf = true ∧ (Lit.int .i64 g.delay).wf = true)
    (_ : os.length ≤ ocap) (_ : ocap ≤ maxLen) (hO : IntsA w w.heap.size O os) (_ : ∀ f ∈ os, (Lit.int .i64 f).wf = true) :
    Calls Try.prog 11 #[.slice A l.length cap, .slice G rs.length gcap, .slice O os.length ocap] w fun e w' => e = .returned (.bool true) ∧ Below w.heap.size w w' := busPlays_any A cap l G gcap rs O ocap os w h hcap hG (Nat.le_trans hgc hgm) hO
end Go.Proofs.Ytlbbhlkbhegegaa
