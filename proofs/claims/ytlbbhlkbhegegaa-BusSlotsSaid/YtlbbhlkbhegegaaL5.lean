/- Walks: ignitionlaw04.BusSlots. -/
import Derived.Test.YtlbbhlkbhegegaaW2
import Derived.Test.YtlbbhlkbhegegaaSl4
namespace Go.Proofs.Ytlbbhlkbhegegaa
open Go.RowKit

set_option maxRecDepth 100000 in
set_option maxHeartbeats 2000000 in
theorem busSlots_any (S C : Int) (A : Option Addr) (cap : Nat) (m : List MGate) (L : Option Addr) (lcap : Nat) (l : List MGate) (w : World) (h : GatesA w w.heap.size A m) (hm : m.length ≤ maxLen) (hG : GatesA w w.heap.size L l) (hlm : l.length ≤ maxLen) (hlc : l.length ≤ lcap) :
    Calls Try.prog 8 #[.agg #[.int .i64 S, .int .i64 C, .slice A m.length cap], .slice L l.length lcap] w fun e w' => e = .returned (.bool true) ∧ Below w.heap.size w w' := by
  have hE := SEnv.make (S := S) (C := C) (cap := cap) (t := 54) h
  obtain ⟨r, hr⟩ : ∃ r, slotsS S C m l = r := ⟨_, rfl⟩
  have hG1 : GatesA (w.alloc (.cells #[.int .i64 S, .int .i64 C, .slice A m.length cap] 54)) w.heap.size L l := hG.below hE.old (Nat.le_refl _)
  have hrr : (r == r) = true := by simp
  clear h hG
  go_enter Try.func8, Try.ntmps8
  go_wp2_with fail
  generalize hW : w.alloc (.cells #[.int .i64 S, .int .i64 C, .slice A m.length cap] 54) = w1 at *
  clear hW
  have hbx := hE.size
  have H1 : Hid (∀ s : BW w1.heap.size w1, Calls Try.prog 33 #[.agg #[.int .i64 S, .int .i64 C, .slice A m.length cap], .slice L l.length lcap] s.1 fun e w' => e = .returned (.int .i64 r) ∧ Below s.1.heap.size s.1 w') := fun s => by
    have h1 := checkSlots_any S C A L cap lcap m l s.1 ((hE.msgs.below (s.2.mono (B' := w.heap.size) (Nat.le_of_lt hbx)) (Nat.le_refl _)).more (by have := s.2.size; omega)) hm ((hG1.below (s.2.mono (B' := w.heap.size) (Nat.le_of_lt hbx)) (Nat.le_refl _)).more (by have := s.2.size; omega)) hlm hlc
    rw [hr] at h1
    exact h1
  have H2 : Hid (∀ s : BW w1.heap.size w1, Calls Try.prog 34 #[.agg #[.int .i64 S, .int .i64 C, .slice A m.length cap], .slice L l.length lcap] s.1 fun e w' => e = .returned (.int .i64 r) ∧ Below s.1.heap.size s.1 w') := fun s => by
    have h1 := rcheckSlots_any S C A L cap lcap m l s.1 ((hE.msgs.below (s.2.mono (B' := w.heap.size) (Nat.le_of_lt hbx)) (Nat.le_refl _)).more (by have := s.2.size; omega)) hm ((hG1.below (s.2.mono (B' := w.heap.size) (Nat.le_of_lt hbx)) (Nat.le_refl _)).more (by have := s.2.size; omega)) hlm hlc
    rw [hr] at h1
    exact h1
  have H3 : Hid (∀ s : BW w1.heap.size w1, Calls Try.prog 22 #[] s.1 fun e w' => e = .returned (.bool true) ∧ Below s.1.heap.size s.1 w') := fun s => works_any s.1
  have m0 := BW.cell (B := w1.heap.size) hbx hE.c0
  have m1 := BW.cell (B := w1.heap.size) hbx hE.c1
  have m2 := BW.cell (B := w1.heap.size) hbx hE.c2
  have hold := hE.old
  clear hE hr hG1
  refine wp_region_below w1.heap.size w1 (Below.refl _ _) (by kernel_rfl) (by kernel_rfl) ?_
  repeat (go_big_quiet_step (first | (go_at_call 33; exact quiet_below (Nat.le_refl _) (H1.out _)) | (go_at_call 34; exact quiet_below (Nat.le_refl _) (H2.out _)) | (go_at_call 22; exact quiet_below (Nat.le_refl _) (H3.out _))))
  refine wpQuiet_nil ?_
  clear m0 m1 m2 H1 H2 H3
  intro s
  have hb := hold.trans (s.2.mono (Nat.le_of_lt hbx))
  generalize s.1 = w6 at *
  go_wp2_with fail
  go_ret
  exact ⟨rfl, hb⟩
theorem busSlots_row (S C : Int) (A : Option Addr) (cap : Nat) (m : List MGate) (L : Option Addr) (lcap : Nat) (l : List MGate) (w : World) (hmc : m.length ≤ cap) (hcm : cap ≤ maxLen) (h : GatesA w w.heap.size A m)
    (_ : (Lit.int .i64 S).wf = true ∧ (Lit.int .i64 C).wf = true ∧ ∀ g ∈ m, (Lit.int .i64 g.rate).wf = true ∧ (Lit.int .i64 g.delay).wf = true) (hlc : l.length ≤ lcap) (hlm : lcap ≤ maxLen) (hG : GatesA w w.heap.size L l) (_ : ∀ g ∈ l, (Lit.int .i64 g.rate).wf = true ∧ (Lit.int .i64 g.delay).wf = true) :
    Calls Try.prog 8 #[.agg #[.int .i64 S, .int .i64 C, .slice A m.length cap], .slice L l.length lcap] w fun e w' => e = .returned (.bool true) ∧ Below w.heap.size w w' :=
  busSlots_any S C A cap m L lcap l w h (by omega) hG (by omega) hlc
end Go.Proofs.Ytlbbhlkbhegegaa
