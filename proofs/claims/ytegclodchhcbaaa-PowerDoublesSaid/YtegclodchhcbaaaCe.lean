/- Walks: sameBools, on equal lists. -/
import Derived.Test.YtegclodchhcbaaaSc
namespace Go.Proofs.Ytegclodchhcbaaa
open Go.RowKit

/-- a slice of bools -/
def BoolsA (w : World) (B : Nat) (A : Option Addr) (n : Nat) (f : Nat → Bool) : Prop :=
  n ≤ maxLen ∧ (0 < n → ∃ b off, A = some ⟨b, off, none⟩ ∧ b < B ∧ ∀ i, i < n → w.cell? ⟨b, off + i, none⟩ = some (.bool (f i)))
theorem BoolsA.below {w w' : World} {B B' n : Nat} {A : Option Addr} {f : Nat → Bool} (h : BoolsA w B A n f) (hb : Below B' w w') (hB : B ≤ B') : BoolsA w' B' A n f := ⟨h.1, fun hn => by
  obtain ⟨b, off, hA, hlt, hc⟩ := h.2 hn
  exact ⟨b, off, hA, by omega, fun i hi => (bcell hb _ _ (by omega)).trans (hc i hi)⟩⟩
theorem BoolsA.more {w : World} {B B' n : Nat} {A : Option Addr} {f : Nat → Bool} (h : BoolsA w B A n f) (hB : B ≤ B') : BoolsA w B' A n f := ⟨h.1, fun hn => by
  obtain ⟨b, off, hA, hlt, hc⟩ := h.2 hn
  exact ⟨b, off, hA, by omega, hc⟩⟩
theorem BoolsA.later {w w' : World} {n : Nat} {A : Option Addr} {f : Nat → Bool} (h : BoolsA w w.heap.size A n f) (hb : Below w.heap.size w w') : BoolsA w' w'.heap.size A n f := (h.below hb (Nat.le_refl _)).more hb.size
theorem BoolsA.at_ {w : World} {B n : Nat} {A : Option Addr} {f : Nat → Bool} (h : BoolsA w B A n f) {k : Nat} (hk : k < n) : ∃ b off, A = some ⟨b, off, none⟩ ∧ b < B ∧ w.cell? ⟨b, off + k, none⟩ = some (.bool (f k)) := by
  obtain ⟨b, off, hA, hlt, hc⟩ := h.2 (by omega)
  exact ⟨b, off, hA, hlt, hc k hk⟩
theorem BoolsO.reads {w : World} {B : Nat} {v : Value} {n : Nat} {f : Nat → Bool} (h : BoolsO w B v n f) (hn : n ≤ maxLen) : ∃ A, v = .slice A n n ∧ BoolsA w w.heap.size A n f := by
  obtain ⟨ob, hv, _, ho⟩ := h
  exact ⟨_, hv, hn, fun _ => ⟨ob, 0, rfl, ho.lt, fun i hi => by rw [Nat.zero_add]; exact ho.cell hi⟩⟩
theorem BoolsA.nil (w : World) (B : Nat) (A : Option Addr) (f : Nat → Bool) : BoolsA w B A 0 f := ⟨Nat.zero_le _, fun h => by omega⟩
set_option maxRecDepth 100000 in
theorem sameBools_any (A B : Option Addr) (ca cb n : Nat) (f : Nat → Bool) (w : World) (hA : BoolsA w w.heap.size A n f) (hB : BoolsA w w.heap.size B n f) :
    Calls Try.prog 21 #[.slice A n ca, .slice B n cb] w fun e w' => e = .returned (.bool true) ∧ Below w.heap.size w w' := by
  have hl := hA.1
  unfold maxLen at hl
  have HH : Hid (∀ W, Below w.heap.size w W → BoolsA W W.heap.size A n f ∧ BoolsA W W.heap.size B n f) := fun W hW => ⟨hA.later hW, hB.later hW⟩
  have HB0 : Hid (Below w.heap.size w w) := Below.refl _ _
  clear hA hB
  go_enter Try.func21, Try.ntmps21
  go_wp2_with fail
  go_loopw [5] (fun vi wr => ∃ k : Nat, k ≤ n ∧ vi = .int .i64 k ∧ Hid (Below w.heap.size w wr)) (fun vi _ => n - (intOf vi).toNat)
  case atStart => exact ⟨0, Nat.zero_le _, rfl, HB0⟩
  case round =>
    clear HB0
    obtain ⟨k, hk, rfl, HB⟩ := hrel
    rename World => wr
    by_cases hlt : k < n
    · obtain ⟨hA, hB⟩ := HH.out wr HB.out
      obtain ⟨b1, o1, e1, hb1, x0⟩ := hA.at_ hlt
      obtain ⟨b2, o2, e2, hb2, y0⟩ := hB.at_ hlt
      subst e1
      subst e2
      have HLT := Lib.hid hlt
      have HHB := Lib.hid hB
      clear hA hB
      generalize f k = x at *
      have hd : (x != x) = false := by simp
      go_upto_region 6 with fail
      go_quiet (fail)
      have HBZ := Lib.hid (bdrw HB.out nq)
      generalize wr.drewN nq = w5 at *
      go_wp2_with fail
      go_roundw
      case rel => exact ⟨k + 1, HLT.out, by go_num, HBZ⟩
      case measure => simp [intOf]; have := HLT.out; omega
    · obtain rfl : k = n := by omega
      go_wp2_with fail
      go_ret
      exact ⟨rfl, HB.out⟩
end Go.Proofs.Ytegclodchhcbaaa
