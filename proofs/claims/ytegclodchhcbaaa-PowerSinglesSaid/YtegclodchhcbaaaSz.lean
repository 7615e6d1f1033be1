/- Walks: sameFaults, on equal faults. -/
import Derived.Test.YtegclodchhcbaaaSy
namespace Go.Proofs.Ytegclodchhcbaaa
open Go.RowKit

set_option maxRecDepth 100000 in
set_option maxHeartbeats 4000000 in
theorem sameF_any (A B : Option Addr) (ca cb : Nat) (F : List MFault) (w : World) (h : FaultsA w w.heap.size A F) (h' : FaultsA w w.heap.size B F) :
    Calls Try.prog 50 #[.slice A F.length ca, .slice B F.length cb] w fun e w' => e = .returned (.bool true) ∧ Below w.heap.size w w' := by
  have hl := h.1
  unfold maxLen at hl
  have HG : Hid (∀ W, Below w.heap.size w W → FaultsA W W.heap.size A F ∧ FaultsA W W.heap.size B F) := fun W hW => ⟨(h.keep hW).more hW.size, (h'.keep hW).more hW.size⟩
  have HB : Hid (Below w.heap.size w w) := Below.refl _ _
  clear h h'
  go_enter Try.func50, Try.ntmps50
  go_wp2_with fail
  go_loopw [5] (fun vi wr => ∃ k : Nat, k ≤ F.length ∧ vi = .int .i64 k ∧ Hid (Below w.heap.size w wr)) (fun vi _ => F.length - (intOf vi).toNat)
  case atStart => exact ⟨0, Nat.zero_le _, rfl, HB⟩
  case round =>
    clear HB
    obtain ⟨k, hk, rfl, HB⟩ := hrel
    rename World => wr
    by_cases hlt : k < F.length
    · obtain ⟨hga, hgb⟩ := HG.out wr HB.out
      obtain ⟨fb, off, hA, hfb, _, f0, f1⟩ := fault_one hga hlt
      obtain ⟨fb', off', hA', hfb', _, h0, h1⟩ := fault_one hgb hlt
      subst hA
      subst hA'
      have HLT := Lib.hid hlt
      clear hga hgb
      obtain ⟨⟨x0, x1⟩, hx⟩ : ∃ f, F.getD k dFault = f := ⟨_, rfl⟩
      rw [hx] at f0 f1 h0 h1
      dsimp only at f0 f1 h0 h1
      clear hx
      have hne : ((x0 != x0) = false ∧ (x0 == x0) = true) ∧ ((x1 != x1) = false ∧ (x1 == x1) = true) := by simp
      obtain ⟨⟨n0, m0⟩, ⟨n1, m1⟩⟩ := hne
      go_upto_region 6 with fail
      go_quiet (fail)
      have HBZ := Lib.hid (bdrw HB.out nq)
      generalize wr.drewN nq = w5 at *
      go_wp2_with fail
      go_roundw
      case rel => exact ⟨k + 1, HLT.out, by go_num, HBZ⟩
      case measure => simp [intOf]; have := HLT.out; omega
    · obtain rfl : k = F.length := by omega
      go_wp2_with fail
      go_ret
      exact ⟨rfl, HB.out⟩
end Go.Proofs.Ytegclodchhcbaaa
