/- Slotted buses as plain data (a pair of numbers as MGate: rate, delay); bus.checkSlotted, ignitionref04.checkSlotted. -/
import Derived.Test.YtlbbhlkbhegegaaP1
import Derived.Test.YtlbbhlkbhegegaaOwn
namespace Go.Proofs.Ytlbbhlkbhegegaa
open Go.RowKit

/-- a slotted bus in a box of its own -/
structure SEnv (w0 : World) (bx : Nat) (S C : Int) (A : Option Addr) (cap : Nat) (m : List MGate) (wr : World) : Prop where
  hbx : bx = w0.heap.size
  old : Below bx w0 wr
  size : bx < wr.heap.size
  c0 : wr.cell? ⟨bx, 0, none⟩ = some (.int .i64 S)
  c1 : wr.cell? ⟨bx, 1, none⟩ = some (.int .i64 C)
  c2 : wr.cell? ⟨bx, 2, none⟩ = some (.slice A m.length cap)
  msgs : GatesA wr bx A m
theorem SEnv.make {w : World} {S C : Int} {A : Option Addr} {cap t : Nat} {m : List MGate} (h : GatesA w w.heap.size A m) : SEnv w w.heap.size S C A cap m (w.alloc (.cells #[.int .i64 S, .int .i64 C, .slice A m.length cap] t)) :=
  ⟨rfl, (Below.refl _ _).alloc (Nat.le_refl _) _, by simp, newcell _ _ _ _, newcell _ _ _ _, newcell _ _ _ _, h.below ((Below.refl _ _).alloc (Nat.le_refl _) _) (Nat.le_refl _)⟩
theorem SEnv.below {w0 wr wr' : World} {bx cap : Nat} {S C : Int} {A : Option Addr} {m : List MGate} (h : SEnv w0 bx S C A cap m wr) {B : Nat} (hb : Below B wr wr') (hB : bx < B) : SEnv w0 bx S C A cap m wr' :=
  ⟨h.hbx, h.old.trans (hb.mono (by omega)), Nat.lt_of_lt_of_le h.size hb.size, (bcell hb _ _ hB).trans h.c0, (bcell hb _ _ hB).trans h.c1, (bcell hb _ _ hB).trans h.c2, h.msgs.below (hb.mono (B' := bx) (by omega)) (Nat.le_refl _)⟩
def msgB (C : Int) (g : MGate) : Bool := inB g.rate 0 1000 && powB g.delay C
def slottedB (S C : Int) (m : List MGate) : Bool := inB S 1 30 && powB C 64 && decide (m.length ≤ 60) && m.all (msgB C)
def slottedE (S C : Int) (m : List MGate) : Int := if slottedB S C m = true then 0 else 43
theorem slotted_no {S C : Int} {m : List MGate} (h : slottedB S C m = false) : slottedE S C m = 43 := by unfold slottedE; rw [h]; rfl
theorem slotted_yes {S C : Int} {m : List MGate} (h : slottedB S C m = true) : slottedE S C m = 0 := by unfold slottedE; rw [h]; rfl
theorem powB_le {n C : Int} (h : powB n C = true) : 1 ≤ n ∧ n ≤ C := by
  unfold powB at h
  rw [Bool.and_eq_true, inB_iff] at h
  exact h.1
theorem GatesA.more {w : World} {B B' : Nat} {A : Option Addr} {l : List MGate} (h : GatesA w B A l) (hB : B ≤ B') : GatesA w B' A l := SlA.more h hB

set_option maxRecDepth 100000 in
set_option maxHeartbeats 1000000 in
theorem slotted_any (S C : Int) (A : Option Addr) (cap : Nat) (m : List MGate) (w : World) (h : GatesA w w.heap.size A m) (hm : m.length ≤ maxLen) :
    Calls Try.prog 72 #[.agg #[.int .i64 S, .int .i64 C, .slice A m.length cap]] w fun e w' => e = .returned (.int .i64 (slottedE S C m)) ∧ Below w.heap.size w w' := by
  have hE := SEnv.make (S := S) (C := C) (cap := cap) (t := 54) h
  unfold maxLen at hm
  clear h
  rcases h1 : inB S 1 30
  · have H1 := Lib.hid h1
    have HZ : Hid (slottedE S C m = 43) := slotted_no (by unfold slottedB; rw [h1]; rfl)
    clear h1
    go_enter Try.func72, Try.ntmps72
    go_wp2_with (go_at_call 67; refine (within_b _ _ _ _ _ H1.out).mono ?_; rintro e w' ⟨rfl, rfl⟩)
    go_ret
    exact ⟨ret_i HZ.out.symm, hE.old⟩
  have H1 := Lib.hid h1
  rcases h2 : powB C 64
  · have H2 := Lib.hid h2
    have HZ : Hid (slottedE S C m = 43) := slotted_no (by unfold slottedB; rw [h1, h2]; rfl)
    clear h1 h2
    go_enter Try.func72, Try.ntmps72
    go_wp2_with (first | (go_at_call 67; refine (within_b _ _ _ _ _ H1.out).mono ?_; rintro e w' ⟨rfl, rfl⟩) | (go_at_call 105; refine (pow_b _ _ _ (by omega) H2.out).mono ?_; rintro e w' ⟨rfl, rfl⟩))
    go_ret
    exact ⟨ret_i HZ.out.symm, hE.old⟩
  have H2 := Lib.hid h2
  have hC := powB_le h2
  by_cases h3 : 60 < m.length
  · have HZ : Hid (slottedE S C m = 43) := slotted_no (by unfold slottedB; rw [h1, h2, decide_eq_false (p := m.length ≤ 60) (by omega)]; rfl)
    clear h1 h2
    go_enter Try.func72, Try.ntmps72
    go_wp2_with (first | (go_at_call 67; refine (within_b _ _ _ _ _ H1.out).mono ?_; rintro e w' ⟨rfl, rfl⟩) | (go_at_call 105; refine (pow_b _ _ _ (by omega) H2.out).mono ?_; rintro e w' ⟨rfl, rfl⟩))
    go_ret
    exact ⟨ret_i HZ.out.symm, hE.old⟩
  have HZN : Hid (m.all (msgB C) = false → slottedE S C m = 43) := fun h => slotted_no (by unfold slottedB; rw [h]; simp)
  have HZY : Hid (m.all (msgB C) = true → slottedE S C m = 0) := fun h => slotted_yes (by unfold slottedB; rw [h1, h2, h, decide_eq_true (p := m.length ≤ 60) (by omega)]; rfl)
  clear h1 h2
  go_enter Try.func72, Try.ntmps72
  go_wp2_with (first | (go_at_call 67; refine (within_b _ _ _ _ _ H1.out).mono ?_; rintro e w' ⟨rfl, rfl⟩) | (go_at_call 105; refine (pow_b _ _ _ (by omega) H2.out).mono ?_; rintro e w' ⟨rfl, rfl⟩))
  generalize hW : w.alloc (.cells #[.int .i64 S, .int .i64 C, .slice A m.length cap] 54) = w1 at *
  clear hW
  go_loopw [2, 24] (fun v i wr => v = .int .i64 0 ∧ ∃ k : Nat, k ≤ m.length ∧ i = .int .i64 k ∧ Hid (∀ j x, j < k → m[j]? = some x → msgB C x = true) ∧ Below w1.heap.size w1 wr) (fun _ i _ => m.length - (intOf i).toNat)
  case atStart => exact ⟨rfl, 0, Nat.zero_le _, rfl, fun j x h => by omega, Below.refl _ _⟩
  case round =>
    obtain ⟨rfl, k, hk, rfl, HI, hbw⟩ := hrel
    have hEr := hE.below hbw hE.size
    have hsz := hbw.size
    by_cases hlt : k < m.length
    · obtain ⟨g, b, off, hg, rfl, hb, c0, c1⟩ := hEr.msgs.at_ hlt
      have q1 := hEr.c1
      have HG := Lib.hid hg
      clear hg hEr
      have hb1 : Below w1.heap.size wr (wr.alloc (.cells #[.int .i64 g.rate, .int .i64 g.delay] 98)) := (Below.refl _ _).alloc hsz _
      have q2 := (bcell hb1 w.heap.size 1 (by have := hE.hbx; have := hE.size; omega)).trans q1
      rcases h4 : inB g.rate 0 1000
      · have H4 := Lib.hid h4
        clear h4
        go_wp2_with (go_at_call 67; refine (within_b _ _ _ _ _ H4.out).mono ?_; rintro e w' ⟨rfl, rfl⟩)
        go_ret
        exact ⟨ret_i (HZN.out (all_no HG.out (by unfold msgB; rw [H4.out]; rfl))).symm, hE.old.trans ((hbw.trans hb1).mono (by have := hE.size; omega))⟩
      · have H4 := Lib.hid h4
        clear h4
        rcases h5 : powB g.delay C
        all_goals
          have H5 := Lib.hid h5
          clear h5
          go_wp2_with (first | (go_at_call 67; refine (within_b _ _ _ _ _ H4.out).mono ?_; rintro e w' ⟨rfl, rfl⟩) | (go_at_call 105; refine (pow_b _ _ _ (by omega) H5.out).mono ?_; rintro e w' ⟨rfl, rfl⟩))
        · go_ret
          exact ⟨ret_i (HZN.out (all_no HG.out (by unfold msgB; rw [H5.out]; simp))).symm, hE.old.trans ((hbw.trans hb1).mono (by have := hE.size; omega))⟩
        · go_roundw
          case rel => exact ⟨rfl, k + 1, by omega, by go_num, upto_snoc HI.out HG.out (by unfold msgB; rw [H4.out, H5.out]; rfl), hbw.trans hb1⟩
          case measure => simp [intOf]; omega
    · have HA : Hid (m.all (msgB C) = true) := all_yes fun j x hj hx => HI.out j x (by omega) hx
      go_wp2_with fail
      go_ret
      exact ⟨ret_i (HZY.out HA.out).symm, hE.old.trans (hbw.mono (by have := hE.size; omega))⟩
end Go.Proofs.Ytlbbhlkbhegegaa
