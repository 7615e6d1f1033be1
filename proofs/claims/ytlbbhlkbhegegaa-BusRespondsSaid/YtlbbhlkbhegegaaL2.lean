/- Walks: ignitionlaw04.BusResponds. -/
import Derived.Test.YtlbbhlkbhegegaaW2
import Derived.Test.YtlbbhlkbhegegaaR12
namespace Go.Proofs.Ytlbbhlkbhegegaa
open Go.RowKit

set_option maxRecDepth 100000 in
set_option maxHeartbeats 2000000 in
theorem busResponds_any (A : Option Addr) (cap : Nat) (l : List MFrame) (frame : Int) (w : World) (h : FramesA w w.heap.size A l) (hcap : l.length ≤ cap) :
    Calls Try.prog 6 #[.slice A l.length cap, .int .i64 frame] w fun e w' => e = .returned (.bool true) ∧ Below w.heap.size w w' := by
  have hH := heavy_any A cap l w h
  obtain ⟨⟨x, c⟩, hp⟩ : ∃ p, respOut l frame = p := ⟨_, rfl⟩
  obtain ⟨ec, hec⟩ : ∃ ec, fcheckS l = ec := ⟨_, rfl⟩
  obtain ⟨R, hR⟩ : ∃ R, respL l = R := ⟨_, rfl⟩
  obtain ⟨T, hT⟩ : ∃ T, lateL l = T := ⟨_, rfl⟩
  have HP := Lib.hid hp
  have H1 : Hid (∀ w1, Below w.heap.size w w1 → Calls Try.prog 25 #[.slice A l.length cap] w1 (RetLE w1 R ec)) := fun w1 hb => by rw [← hR, ← hec]; exact responses_any A cap l w1 ((h.keep hb).more hb.size) hcap
  have H2 : Hid (∀ w1, Below w.heap.size w w1 → Calls Try.prog 28 #[.slice A l.length cap] w1 (RetLE w1 R ec)) := fun w1 hb => by rw [← hR, ← hec]; exact rresponses_any A cap l w1 ((h.keep hb).more hb.size)
  have H3 : Hid (∀ w1, Below w.heap.size w w1 → Calls Try.prog 29 #[.slice A l.length cap] w1 (RetLE w1 T ec)) := fun w1 hb => by rw [← hT, ← hec]; exact late_any A cap l w1 ((h.keep hb).more hb.size) hcap
  have H4 : Hid (∀ w1, Below w.heap.size w w1 → Calls Try.prog 30 #[.slice A l.length cap] w1 (RetLE w1 T ec)) := fun w1 hb => by rw [← hT, ← hec]; exact rLate_any A cap l w1 ((h.keep hb).more hb.size)
  clear hR hT hec hp
  have hxx : (x != x) = false := by simp
  have hcc : (c != c) = false := by simp
  have hee : (ec != ec) = false := by simp
  have hee2 : (ec == ec) = true := by simp
  have s1 : Hid (sameL R R = true) := by unfold sameL; exact decide_eq_true rfl
  have s2 : Hid (sameL T T = true) := by unfold sameL; exact decide_eq_true rfl
  have HH := Lib.hid hH
  clear hH
  go_enter Try.func6, Try.ntmps6
  go_wp2_with fail
  refine HH.out.mono ?_
  rintro e w1 ⟨⟨r, rfl⟩, hb1⟩
  rcases r with _ | _
  · go_wp2_with fail
    refine (resp_any A cap l frame w1 ((h.keep hb1).more hb1.size) hcap HP.out).mono ?_
    rintro e w2 ⟨rfl, hb2⟩
    have hb := hb1.trans (hb2.mono hb1.size)
    clear hb1 hb2
    go_wp2_with fail
    refine (rresp_any A cap l frame w2 ((h.keep hb).more hb.size) HP.out).mono ?_
    rintro e w3 ⟨rfl, hb2⟩
    have hb3 := hb.trans (hb2.mono hb.size)
    clear hb hb2
    go_wp2_with fail
    refine (H1.out _ hb3).mono ?_
    rintro e w4 ⟨hb4, X, xk, rfl, _, hX⟩
    have hb5 := hb3.trans (hb4.mono hb3.size)
    clear hb3 hb4
    go_wp2_with fail
    refine (H2.out _ hb5).mono ?_
    rintro e w5 ⟨hb6, Y, yk, rfl, _, hY⟩
    have hX5 := hX.below hb6 (Nat.le_refl _)
    have hb7 := hb5.trans (hb6.mono hb5.size)
    clear hb5 hb6 hX
    have hc1 := same_b (cap := xk) (cap' := yk) hX5 hY rfl rfl s1.out
    go_wp2_with fail
    refine hc1.mono ?_
    rintro e w6 ⟨rfl, hb8⟩
    have hb9 := hb7.trans (hb8.mono hb7.size)
    clear hc1 hb7 hb8 hX5 hY
    go_wp2_with fail
    refine (H3.out _ hb9).mono ?_
    rintro e w7 ⟨hb4, X', xk', rfl, _, hX⟩
    have hb5 := hb9.trans (hb4.mono hb9.size)
    clear hb9 hb4
    go_wp2_with fail
    refine (H4.out _ hb5).mono ?_
    rintro e w8 ⟨hb6, Y', yk', rfl, _, hY⟩
    have hX5 := hX.below hb6 (Nat.le_refl _)
    have hb7 := hb5.trans (hb6.mono hb5.size)
    clear hb5 hb6 hX
    have hc1 := same_b (cap := xk') (cap' := yk') hX5 hY rfl rfl s2.out
    go_wp2_with fail
    refine hc1.mono ?_
    rintro e w9 ⟨rfl, hb8⟩
    have hb9 := hb7.trans (hb8.mono hb7.size)
    clear hc1 hb7 hb8 hX5 hY
    go_wp2_with fail
    refine (works_any w9).mono ?_
    rintro e w10 ⟨rfl, hb10⟩
    have hb11 := hb9.trans (hb10.mono hb9.size)
    clear hb9 hb10
    go_wp2_with fail
    go_ret
    exact ⟨rfl, hb11⟩
  · go_wp2_with fail
    refine (works_any w1).mono ?_
    rintro e w10 ⟨rfl, hb10⟩
    have hb11 := hb1.trans (hb10.mono hb1.size)
    clear hb1 hb10
    go_wp2_with fail
    go_ret
    exact ⟨rfl, hb11⟩
/-- as the row hands it over -/
theorem busResponds_row (A : Option Addr) (cap : Nat) (l : List MFrame) (frame : Int) (w : World) (hcap : l.length ≤ cap) (_ : cap ≤ maxLen) (h : FramesA w w.heap.size A l)
    (_ : ∀ f ∈ l, (Lit.int .i64 f.size).wf = true ∧ (Lit.int .i64 f.every).wf = true ∧ (Lit.int .i64 f.jitter).wf = true ∧ (Lit.int .i64 f.due).wf = true ∧ (Lit.int .i64 f.rank).wf = true) (_ : (Lit.int .i64 frame).wf = true) :
    Calls Try.prog 6 #[.slice A l.length cap, .int .i64 frame] w fun e w' => e = .returned (.bool true) ∧ Below w.heap.size w w' := busResponds_any A cap l frame w h hcap
end Go.Proofs.Ytlbbhlkbhegegaa
