/- Walks: SameInts. -/
import Derived.Test.YtegclodchhcbaaaGm
namespace Go.Proofs.Ytegclodchhcbaaa
open Go.RowKit

theorem ints_same {l m : List Int} (hn : l.length = m.length) (h : ∀ j, j < l.length → l.getD j 0 = m.getD j 0) : l = m :=
  List.ext_getElem hn fun j h1 h2 => by
    have := h j h1
    rw [List.getD_eq_getElem?_getD, List.getD_eq_getElem?_getD, List.getElem?_eq_getElem h1, List.getElem?_eq_getElem h2] at this
    exact this
set_option maxRecDepth 100000 in
theorem sameInts_any (A B : Option Addr) (ca cb : Nat) (l m : List Int) (w : World) (hl : IntsA w w.heap.size A l) (hm : IntsA w w.heap.size B m) {b : Bool} (hb : decide (l = m) = b) :
    Calls Try.prog 30 #[.slice A l.length ca, .slice B m.length cb] w fun e w' => e = .returned (.bool b) ∧ Below w.heap.size w w' := by
  have hl1 := hl.1
  have hl2 := hm.1
  unfold maxLen at hl1 hl2
  have HL : Hid (∀ W, Below w.heap.size w W → IntsA W W.heap.size A l ∧ IntsA W W.heap.size B m) := fun W hW => ⟨(hl.below hW (Nat.le_refl _)).more hW.size, (hm.below hW (Nat.le_refl _)).more hW.size⟩
  have HB := Lib.hid hb
  clear hl hm hb
  by_cases hn : l.length = m.length
  · have HN := Lib.hid hn
    have hn' : ((l.length : Int) != (m.length : Int)) = false := by simp [hn]
    have HB0 : Hid (Below w.heap.size w w) := Below.refl _ _
    clear hn
    go_enter Try.func30, Try.ntmps30
    go_wp2_with fail
    go_loopw [5] (fun vi wr => ∃ k : Nat, k ≤ l.length ∧ vi = .int .i64 k ∧ Hid (Below w.heap.size w wr) ∧ Hid (∀ j, j < k → l.getD j 0 = m.getD j 0)) (fun vi _ => l.length - (intOf vi).toNat)
    case atStart => exact ⟨0, Nat.zero_le _, rfl, HB0, fun j hj => absurd hj (Nat.not_lt_zero _)⟩
    case round =>
      clear HB0
      obtain ⟨k, hk, rfl, HBW, HS⟩ := hrel
      rename World => wr
      by_cases hlt : k < l.length
      · obtain ⟨b1, o1, hA, hb1, x0⟩ := (HL.out wr HBW.out).1.at_ hlt
        have hlm : k < m.length := by have := HN.out; omega
        obtain ⟨b2, o2, hA2, hb2, y0⟩ := (HL.out wr HBW.out).2.at_ hlm
        subst hA
        subst hA2
        have HLT := Lib.hid hlt
        by_cases hq : l.getD k 0 = m.getD k 0
        · have hq' : (l.getD k 0 != m.getD k 0) = false := by rw [hq]; simp
          have HQ : Hid (∀ j, j < k + 1 → l.getD j 0 = m.getD j 0) := fun j hj => by
            rcases Nat.lt_or_ge j k with h | h
            · exact HS.out j h
            · obtain rfl : j = k := by omega
              exact hq
          clear hq
          generalize l.getD k 0 = x at *
          generalize m.getD k 0 = y at *
          go_upto_region 6 with fail
          go_quiet (fail)
          have HBZ := Lib.hid (bdrw HBW.out nq)
          generalize wr.drewN nq = w5 at *
          go_wp2_with fail
          go_roundw
          case rel => exact ⟨k + 1, HLT.out, by go_num, HBZ, HQ⟩
          case measure => simp [intOf]; have := HLT.out; omega
        · have hq' : (l.getD k 0 != m.getD k 0) = true := by simpa using hq
          have HV : Hid (false = b) := by show _ = _; rw [← HB.out]; exact (decide_eq_false fun h => hq (by rw [h])).symm
          clear hq
          generalize l.getD k 0 = x at *
          generalize m.getD k 0 = y at *
          go_upto_region 6 with fail
          go_quiet (fail)
          have HBZ := Lib.hid (bdrw HBW.out nq)
          generalize wr.drewN nq = w5 at *
          go_wp2_with fail
          go_ret
          exact ⟨ret_b HV.out, HBZ.out⟩
      · obtain rfl : k = l.length := by omega
        have HV : Hid (true = b) := by show _ = _; rw [← HB.out]; exact (decide_eq_true (ints_same HN.out HS.out)).symm
        go_wp2_with fail
        go_ret
        exact ⟨ret_b HV.out, HBW.out⟩
  · have hn' : ((l.length : Int) != (m.length : Int)) = true := by simp; omega
    have HV : Hid (false = b) := by show _ = _; rw [← HB.out]; exact (decide_eq_false fun h => hn (by rw [h])).symm
    clear hn
    go_enter Try.func30, Try.ntmps30
    go_wp2_with fail
    go_ret
    exact ⟨ret_b HV.out, Below.refl _ _⟩
end Go.Proofs.Ytegclodchhcbaaa
