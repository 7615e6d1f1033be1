/- Walk: contains, of the laws. -/
import Derived.Test.YtonpemikodajdaaDoorPr
import Derived.Test.YtonpemikodajdaaDoorLf
namespace Go.Proofs.YtonpemikodajdaaDoor
open Go.RowKit

theorem contB_no {l all : List Int} {k : Nat} (hk : k < all.length) (h : hasI l (all.getD k 0) = false) : contB l all = false := by
  unfold contB
  rw [Bool.eq_false_iff]
  intro h2
  rw [List.all_eq_true] at h2
  have := h2 (all.getD k 0) (by rw [List.getD_eq_getElem?_getD, List.getElem?_eq_getElem hk]; exact List.getElem_mem hk)
  rw [h] at this
  cases this
theorem contB_yes {l all : List Int} (h : ∀ j, j < all.length → hasI l (all.getD j 0) = true) : contB l all = true := by
  unfold contB
  rw [List.all_eq_true]
  intro y hy
  obtain ⟨j, hj, rfl⟩ := List.mem_iff_getElem.1 hy
  have := h j hj
  rw [List.getD_eq_getElem?_getD, List.getElem?_eq_getElem hj] at this
  exact this
set_option maxRecDepth 100000 in
set_option maxHeartbeats 2000000 in
theorem contains_any (A A' : Option Addr) (c c' : Nat) (l all : List Int) (w : World) (h : IntsA w w.heap.size A l) (h' : IntsA w w.heap.size A' all) {r : Bool} (hr : contB l all = r) :
    Calls Tryd.prog 26 #[.slice A l.length c, .slice A' all.length c'] w fun e w' => e = .returned (.bool r) ∧ Below w.heap.size w w' := by
  have hlen := h.1
  have hlen' := h'.1
  unfold maxLen at hlen hlen'
  have HR := Lib.hid hr
  have HI := Lib.hid h
  have HI' := Lib.hid h'
  clear hr h h'
  go_enter Tryd.func26, Tryd.ntmps26
  go_wp2_with fail
  go_loopw [5] (fun vi wr => ∃ k : Nat, k ≤ all.length ∧ vi = .int .i64 k ∧ Hid (∀ j, j < k → hasI l (all.getD j 0) = true) ∧ Hid (Below w.heap.size w wr)) (fun vi _ => all.length - (intOf vi).toNat)
  case atStart => exact ⟨0, Nat.zero_le _, rfl, (fun j hj => by omega), Below.refl _ _⟩
  case round =>
    obtain ⟨k, hk, rfl, HJ, HB⟩ := hrel
    rename World => wr
    by_cases hlt : k < all.length
    rotate_left
    · obtain rfl : k = all.length := by omega
      go_wp2_with fail
      go_ret
      exact ⟨ret_b (by rw [← HR.out]; exact (contB_yes HJ.out).symm), HB.out⟩
    · obtain ⟨y, hy⟩ : ∃ y, all.getD k 0 = y := ⟨_, rfl⟩
      have HY := Lib.hid hy
      clear hy
      go_wp2_with fail
      go_loopw [7, 6] (fun vi vb wx => ∃ (q : Nat) (b : Bool), q ≤ l.length ∧ vi = .int .i64 q ∧ vb = .bool b ∧ Hid (b = hasI (l.take q) y) ∧ Hid (Below w.heap.size w wx)) (fun vi _ _ => l.length - (intOf vi).toNat)
      case atStart => exact ⟨0, false, Nat.zero_le _, rfl, rfl, rfl, HB.out⟩
      case round =>
        obtain ⟨q, b, hq, rfl, rfl, HQ, HX⟩ := hrel
        rename World => wx
        by_cases hql : q < l.length
        · have hst := hasI_take (x := y) hql
          rcases b with _ | _
          · obtain ⟨lb, lo, hA, _, t0⟩ := (HI.out.keep HX.out).at_ hql
            obtain ⟨lb', lo', hA', _, t1⟩ := (HI'.out.keep HX.out).at_ hlt
            subst hA
            subst hA'
            rw [HY.out] at t1
            rw [← HQ.out, Bool.false_or] at hst
            obtain ⟨x, hx⟩ : ∃ x, l.getD q 0 = x := ⟨_, rfl⟩
            rw [hx] at t0 hst
            by_cases he : x = y
            · have e9 : (x == y) = true := by simpa using he
              have HST : Hid (true = hasI (l.take (q + 1)) y) := by show _ = _; rw [hst]; exact (decide_eq_true he).symm
              clear he hst hx
              go_wp2_with fail
              go_quiet (fail)
              go_wp2_with fail
              go_roundw
              case rel => exact ⟨q + 1, true, by omega, by go_num, rfl, HST.out, below_drewN HX.out _⟩
              case measure => simp [intOf]; omega
            · have e9 : (x == y) = false := by simpa using he
              have HST : Hid (false = hasI (l.take (q + 1)) y) := by show _ = _; rw [hst]; exact (decide_eq_false he).symm
              clear he hst hx
              go_wp2_with fail
              go_quiet (fail)
              go_wp2_with fail
              go_roundw
              case rel => exact ⟨q + 1, false, by omega, by go_num, rfl, HST.out, below_drewN HX.out _⟩
              case measure => simp [intOf]; omega
          · have HST : Hid (true = hasI (l.take (q + 1)) y) := by show _ = _; rw [hst, ← HQ.out]; rfl
            clear hst
            go_wp2_with fail
            go_quiet (fail)
            go_wp2_with fail
            go_roundw
            case rel => exact ⟨q + 1, true, by omega, by go_num, rfl, HST.out, below_drewN HX.out _⟩
            case measure => simp [intOf]; omega
        · obtain rfl : q = l.length := by omega
          have hb : b = hasI l y := by have := HQ.out; rwa [List.take_length] at this
          rcases b with _ | _
          · have HNO : Hid (contB l all = false) := contB_no hlt (by rw [HY.out]; exact hb.symm)
            clear hb
            go_wp2_with fail
            go_ret
            exact ⟨ret_b (by rw [← HR.out, HNO.out]), HX.out⟩
          · have HYES : Hid (hasI l (all.getD k 0) = true) := by show _ = _; rw [HY.out]; exact hb.symm
            clear hb
            go_wp2_with fail
            go_roundw
            case rel => exact ⟨k + 1, by omega, by go_num, nat_snoc HJ.out HYES.out, HX.out⟩
            case measure => simp [intOf]; omega
end Go.Proofs.YtonpemikodajdaaDoor
