/- Walks: ignitionlaw04.sameInts. -/
import Derived.Test.YtlbbhlkbhegegaaProg
import Derived.Test.YtlbbhlkbhegegaaMem
namespace Go.Proofs.Ytlbbhlkbhegegaa
open Go.RowKit

def sameL (a b : List Int) : Bool := decide (a = b)
theorem sameL_len {a b : List Int} (h : a.length ≠ b.length) : sameL a b = false := by
  unfold sameL; exact decide_eq_false fun e => h (by rw [e])
theorem sameL_no {a b : List Int} {k : Nat} (h : a.getD k 0 ≠ b.getD k 0) : sameL a b = false := by
  unfold sameL; exact decide_eq_false fun e => h (by rw [e])
theorem sameL_yes {a b : List Int} (hl : a.length = b.length) (h : ∀ j, j < a.length → a.getD j 0 = b.getD j 0) : sameL a b = true := by
  unfold sameL
  refine decide_eq_true (List.ext_getElem hl fun j h1 h2 => ?_)
  have := h j h1
  simpa [List.getD_eq_getElem?_getD, List.getElem?_eq_getElem h1, List.getElem?_eq_getElem h2] using this

set_option maxHeartbeats 400000 in
theorem same_any (A B : Option Addr) (n m cap cap' : Nat) (a b : List Int) (w : World) (BA BB : Nat) (ha : IntsA w BA A a) (hb : IntsA w BB B b) (hn : n = a.length) (hm : m = b.length) :
    Calls Try.prog 21 #[.slice A n cap, .slice B m cap'] w fun e w' => e = .returned (.bool (sameL a b)) ∧ ∃ q, w' = w.drewN q := by
  subst hn
  subst hm
  have hla := ha.1
  have hlb := hb.1
  unfold maxLen at hla hlb
  by_cases hl : a.length = b.length
  · have HL := Lib.hid hl
    have hl1 : a.length ≤ b.length := by omega
    have hl2 : (((a.length : Nat) : Int) != (b.length : Int)) = false := by simp [hl]
    clear hl
    go_enter Try.func21, Try.ntmps21
    go_wp2
    go_loopw [5] (fun i wr => ∃ k : Nat, k ≤ a.length ∧ i = .int .i64 k ∧ (∀ j, j < k → a.getD j 0 = b.getD j 0) ∧ ∃ q, wr = w.drewN q) (fun i _ => a.length - (intOf i).toNat)
    case atStart => exact ⟨0, Nat.zero_le _, rfl, by omega, 0, rfl⟩
    case round =>
      obtain ⟨k, hk, rfl, hi, q, hwr⟩ := hrel
      have HI := Lib.hid hi
      have ha' : IntsA wr BA A a := by rw [hwr]; exact ha
      have hb' : IntsA wr BB B b := by rw [hwr]; exact hb
      have HWR := Lib.hid hwr
      clear hi hwr
      by_cases hlt : k < a.length
      · obtain ⟨b1, o1, rfl, _, hc1⟩ := ha'.at_ hlt
        obtain ⟨b2, o2, rfl, _, hc2⟩ := hb'.at_ (k := k) (by omega)
        generalize hx : a.getD k 0 = x at *
        generalize hy : b.getD k 0 = y at *
        have HX := Lib.hid hx
        have HY := Lib.hid hy
        clear hx hy
        have hkb : k < b.length := by omega
        go_wp2_with fail
        go_quiet (fail)
        by_cases he : x = y
        · subst he
          go_wp2_with fail
          go_roundw
          case rel => exact ⟨k + 1, by omega, by go_num, fun j hj => by
            rcases Nat.lt_or_ge j k with h1 | h1
            · exact HI.out j h1
            · have : j = k := by omega
              subst this; rw [HX.out, HY.out], q + nq, by rw [HWR.out, World.drewN_drewN]⟩
          case measure => simp [intOf]; omega
        · go_wp2_with fail
          go_ret
          exact ⟨ret_b (sameL_no (k := k) (by rw [HX.out, HY.out]; exact he)).symm, q + nq, by rw [HWR.out, World.drewN_drewN]⟩
      · go_wp2_with fail
        go_ret
        exact ⟨ret_b (sameL_yes HL.out fun j hj => HI.out j (by omega)).symm, q, HWR.out⟩
  · have hl2 : (((a.length : Nat) : Int) != (b.length : Int)) = true := by rw [bne_iff_ne]; omega
    have HL : Hid (a.length ≠ b.length) := hl
    clear hl
    go_enter Try.func21, Try.ntmps21
    go_wp2
    go_ret
    exact ⟨ret_b (sameL_len HL.out).symm, 0, rfl⟩
end Go.Proofs.Ytlbbhlkbhegegaa
