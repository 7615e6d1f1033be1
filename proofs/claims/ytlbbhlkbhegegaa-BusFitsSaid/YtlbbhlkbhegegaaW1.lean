/- Walks: ignitionlaw04.Example; the examples as plain data. -/
import Derived.Test.YtlbbhlkbhegegaaRs1
import Derived.Test.YtlbbhlkbhegegaaDelM
import Derived.Test.YtlbbhlkbhegegaaOrdF
namespace Go.Proofs.Ytlbbhlkbhegegaa
open Go.RowKit
def exF : List MFrame := [⟨2, 10, 0, 6, 1⟩, ⟨3, 15, 2, 12, 2⟩, ⟨4, 20, 0, 20, 3⟩]
def exN : MNet := ⟨[⟨10, 2⟩, ⟨10, 2⟩], [⟨20, 5, [0, 1]⟩, ⟨15, 5, [1]⟩]⟩
theorem exF_ok : framesB exF = true := by decide +kernel
theorem exF_resp : respL exF = [5, 10, 9] := by decide +kernel
theorem exN_ok : checkS exN = 0 := by decide +kernel
theorem exN_order : orderS exN = some [0, 1] := by decide +kernel
theorem exN_del : ∃ W D, delI exN [0, 1] (burst0 exN) (fun _ => 0) (fun _ => 0) = some (W, D) ∧ W 0 = 1 ∧ W 1 = 3 ∧ D 0 = 8 ∧ D 1 = 5 := by
  refine ⟨_, _, rfl, ?_, ?_, ?_, ?_⟩ <;> decide +kernel

theorem frames_new (w : World) (B t : Nat) (hB : w.heap.size < B) :
    FramesA (w.alloc (.cells #[.int .i64 2, .int .i64 10, .int .i64 0, .int .i64 6, .int .i64 1, .int .i64 3, .int .i64 15, .int .i64 2, .int .i64 12, .int .i64 2, .int .i64 4, .int .i64 20, .int .i64 0, .int .i64 20, .int .i64 3] t)) B (some ⟨w.heap.size, 0, none⟩) exF := by
  refine ⟨by unfold maxLen; decide, fun _ => ⟨w.heap.size, 0, rfl, hB, fun i j hi hj => ?_⟩⟩
  rw [newcell]
  have hi' : i < 3 := hi
  match i, hi', j, hj with
  | 0, _, 0, _ => rfl
  | 0, _, 1, _ => rfl
  | 0, _, 2, _ => rfl
  | 0, _, 3, _ => rfl
  | 0, _, 4, _ => rfl
  | 1, _, 0, _ => rfl
  | 1, _, 1, _ => rfl
  | 1, _, 2, _ => rfl
  | 1, _, 3, _ => rfl
  | 1, _, 4, _ => rfl
  | 2, _, 0, _ => rfl
  | 2, _, 1, _ => rfl
  | 2, _, 2, _ => rfl
  | 2, _, 3, _ => rfl
  | 2, _, 4, _ => rfl
theorem example_any (w : World) : Calls Try.prog 63 #[] w fun e w' => ∃ b, e = .returned (.slice (some ⟨b, 0, none⟩) 3 3) ∧ FramesA w' w'.heap.size (some ⟨b, 0, none⟩) exF ∧ Below w.heap.size w w' := by
  have h1 := frames_new w (w.heap.size + 1) 41 (by omega)
  go_enter Try.func63, Try.ntmps63
  go_wp2
  go_ret
  exact ⟨w.heap.size, rfl, by simpa using h1, (Below.refl _ _).alloc (Nat.le_refl _) _⟩
end Go.Proofs.Ytlbbhlkbhegegaa
