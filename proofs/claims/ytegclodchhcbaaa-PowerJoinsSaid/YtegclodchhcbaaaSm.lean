/- Walks: Same, on equal grids. Printed by gen_same8.py. -/
import Derived.Test.YtegclodchhcbaaaGm
import Derived.Test.YtegclodchhcbaaaLv
namespace Go.Proofs.Ytegclodchhcbaaa
open Go.RowKit

set_option maxRecDepth 100000 in
set_option maxHeartbeats 4000000 in
theorem same_any (g : MGrid) (A1 A2 A3 B1 B2 B3 : Option Addr) (c1 c2 c3 d1 d2 d3 : Nat) (w : World) (h : GridA w w.heap.size g A1 A2 A3) (h' : GridA w w.heap.size g B1 B2 B3) :
    Calls Try.prog 37 #[.agg (gridC g A1 A2 A3 c1 c2 c3), .agg (gridC g B1 B2 B3 d1 d2 d3)] w fun e w' => e = .returned (.bool true) ∧ Below w.heap.size w w' := by
  unfold gridC
  obtain ⟨w1, hw1⟩ : ∃ w1, w.alloc (.cells #[.int .i64 g.nodes, .slice A1 g.lines.length c1, .slice A2 g.srcs.length c2, .slice A3 g.users.length c3] 26) = w1 := ⟨_, rfl⟩
  obtain ⟨w2, hw2⟩ : ∃ w2, w1.alloc (.cells #[.int .i64 g.nodes, .slice B1 g.lines.length d1, .slice B2 g.srcs.length d2, .slice B3 g.users.length d3] 26) = w2 := ⟨_, rfl⟩
  have hb1 : Below w.heap.size w w1 := by rw [← hw1]; exact (Below.refl _ _).alloc (Nat.le_refl _) _
  have hs1 : w1.heap.size = w.heap.size + 1 := by rw [← hw1]; simp
  have hb2 : Below w1.heap.size w1 w2 := by rw [← hw2]; exact (Below.refl _ _).alloc (Nat.le_refl _) _
  have hs2 : w2.heap.size = w.heap.size + 2 := by rw [← hw2]; simp; omega
  have hx1 : w1.heap[w.heap.size]? = some (.cells #[.int .i64 g.nodes, .slice A1 g.lines.length c1, .slice A2 g.srcs.length c2, .slice A3 g.users.length c3] 26 (0, 0)) := by rw [← hw1]; exact heap_alloc_new w _
  have hx2 : w2.heap[w1.heap.size]? = some (.cells #[.int .i64 g.nodes, .slice B1 g.lines.length d1, .slice B2 g.srcs.length d2, .slice B3 g.users.length d3] 26 (0, 0)) := by rw [← hw2]; exact heap_alloc_new w1 _
  have HX : Hid (∀ W, Below w2.heap.size w2 W → Below w.heap.size w W ∧ W.cell? ⟨w.heap.size, 0, none⟩ = some (.int .i64 g.nodes) ∧ W.cell? ⟨w.heap.size, 1, none⟩ = some (.slice A1 g.lines.length c1) ∧ W.cell? ⟨w.heap.size, 2, none⟩ = some (.slice A2 g.srcs.length c2) ∧ W.cell? ⟨w.heap.size, 3, none⟩ = some (.slice A3 g.users.length c3) ∧ W.cell? ⟨w1.heap.size, 0, none⟩ = some (.int .i64 g.nodes) ∧ W.cell? ⟨w1.heap.size, 1, none⟩ = some (.slice B1 g.lines.length d1) ∧ W.cell? ⟨w1.heap.size, 2, none⟩ = some (.slice B2 g.srcs.length d2) ∧ W.cell? ⟨w1.heap.size, 3, none⟩ = some (.slice B3 g.users.length d3)) := fun W hW => by
    have h1 := (hW.block w.heap.size (by omega)).trans ((hb2.block w.heap.size (by omega)).trans hx1)
    have h2 := (hW.block w1.heap.size (by omega)).trans hx2
    exact ⟨hb1.trans ((hb2.trans (hW.mono (by omega))).mono (by omega)), cell_of_row W _ 0 _ _ _ h1, cell_of_row W _ 1 _ _ _ h1, cell_of_row W _ 2 _ _ _ h1, cell_of_row W _ 3 _ _ _ h1, cell_of_row W _ 0 _ _ _ h2, cell_of_row W _ 1 _ _ _ h2, cell_of_row W _ 2 _ _ _ h2, cell_of_row W _ 3 _ _ _ h2⟩
  have HG : Hid (∀ W, Below w2.heap.size w2 W → GridA W W.heap.size g A1 A2 A3 ∧ GridA W W.heap.size g B1 B2 B3) := fun W hW => by
    have := (HX.out W hW).1
    exact ⟨(h.keep this).more this.size, (h'.keep this).more this.size⟩
  have hl1 := h.ls.1
  have hl2 := h.ss.1
  have hl3 := h.us.1
  unfold maxLen at hl1 hl2 hl3
  obtain ⟨_, p0, p1, p2, p3, q0, q1, q2, q3⟩ := HX.out w2 (Below.refl _ _)
  have HB : Hid (Below w2.heap.size w2 w2) := Below.refl _ _
  clear h h' hb1 hb2 hx1 hx2 hs1 hs2
  go_enter Try.func37, Try.ntmps37
  go_wp2_with fail
  clear p0 p1 p2 p3 q0 q1 q2 q3
  go_loopw [5] (fun vi wr => ∃ k : Nat, k ≤ g.lines.length ∧ vi = .int .i64 k ∧ Hid (Below w2.heap.size w2 wr)) (fun vi _ => g.lines.length - (intOf vi).toNat)
  case atStart => exact ⟨0, Nat.zero_le _, rfl, HB⟩
  case round =>
    clear HB
    obtain ⟨k, hk, rfl, HB⟩ := hrel
    rename World => wr
    obtain ⟨_, p0, p1, p2, p3, q0, q1, q2, q3⟩ := HX.out wr HB.out
    by_cases hlt : k < g.lines.length
    · obtain ⟨hga, hgb⟩ := HG.out wr HB.out
      obtain ⟨f, lb, lo, hfe, hA, hlb, f0, f1, f2, f3⟩ := hga.ls.at_ hlt
      obtain ⟨f', lb', lo', hfe', hA', hlb', h0, h1, h2, h3⟩ := hgb.ls.at_ hlt
      rw [hfe] at hfe'
      subst hfe'
      subst hA
      subst hA'
      have HLT := Lib.hid hlt
      clear hga hgb hfe
      obtain ⟨x0, x1, x2, x3⟩ := f
      dsimp only at f0 f1 f2 f3 h0 h1 h2 h3
      have hne : (x0 != x0) = false ∧ (x0 == x0) = true ∧ (x1 != x1) = false ∧ (x1 == x1) = true ∧ (x2 != x2) = false ∧ (x2 == x2) = true ∧ (x3 != x3) = false ∧ (x3 == x3) = true := by simp
      obtain ⟨n0, m0, n1, m1, n2, m2, n3, m3⟩ := hne
      go_upto_region 6 with fail
      go_quiet (fail)
      have HBZ := Lib.hid (bdrw HB.out nq)
      generalize wr.drewN nq = w5 at *
      go_wp2_with fail
      go_roundw
      case rel => exact ⟨k + 1, HLT.out, by go_num, HBZ⟩
      case measure => simp [intOf]; have := HLT.out; omega
    · obtain rfl : k = g.lines.length := by omega
      go_wp2_with fail
      clear p0 p1 p2 p3 q0 q1 q2 q3
      go_loopw [6] (fun vi wr => ∃ k : Nat, k ≤ g.srcs.length ∧ vi = .int .i64 k ∧ Hid (Below w2.heap.size w2 wr)) (fun vi _ => g.srcs.length - (intOf vi).toNat)
      case atStart => exact ⟨0, Nat.zero_le _, rfl, HB⟩
      case round =>
        clear HB
        obtain ⟨k, hk, rfl, HB⟩ := hrel
        rename World => wr
        obtain ⟨_, p0, p1, p2, p3, q0, q1, q2, q3⟩ := HX.out wr HB.out
        by_cases hlt : k < g.srcs.length
        · obtain ⟨hga, hgb⟩ := HG.out wr HB.out
          obtain ⟨f, lb, lo, hfe, hA, hlb, f0, f1⟩ := hga.ss.at_ hlt
          obtain ⟨f', lb', lo', hfe', hA', hlb', h0, h1⟩ := hgb.ss.at_ hlt
          rw [hfe] at hfe'
          subst hfe'
          subst hA
          subst hA'
          have HLT := Lib.hid hlt
          clear hga hgb hfe
          obtain ⟨x0, x1⟩ := f
          dsimp only at f0 f1 h0 h1
          have hne : (x0 != x0) = false ∧ (x0 == x0) = true ∧ (x1 != x1) = false ∧ (x1 == x1) = true := by simp
          obtain ⟨n0, m0, n1, m1⟩ := hne
          go_upto_region 11 with fail
          go_quiet (fail)
          have HBZ := Lib.hid (bdrw HB.out nq)
          generalize wr.drewN nq = w5 at *
          go_wp2_with fail
          go_roundw
          case rel => exact ⟨k + 1, HLT.out, by go_num, HBZ⟩
          case measure => simp [intOf]; have := HLT.out; omega
        · obtain rfl : k = g.srcs.length := by omega
          go_wp2_with fail
          clear p0 p1 p2 p3 q0 q1 q2 q3
          go_loopw [7] (fun vi wr => ∃ k : Nat, k ≤ g.users.length ∧ vi = .int .i64 k ∧ Hid (Below w2.heap.size w2 wr)) (fun vi _ => g.users.length - (intOf vi).toNat)
          case atStart => exact ⟨0, Nat.zero_le _, rfl, HB⟩
          case round =>
            clear HB
            obtain ⟨k, hk, rfl, HB⟩ := hrel
            rename World => wr
            obtain ⟨_, p0, p1, p2, p3, q0, q1, q2, q3⟩ := HX.out wr HB.out
            by_cases hlt : k < g.users.length
            · obtain ⟨hga, hgb⟩ := HG.out wr HB.out
              obtain ⟨f, lb, lo, hfe, hA, hlb, f0, f1, f2⟩ := hga.us.at_ hlt
              obtain ⟨f', lb', lo', hfe', hA', hlb', h0, h1, h2⟩ := hgb.us.at_ hlt
              rw [hfe] at hfe'
              subst hfe'
              subst hA
              subst hA'
              have HLT := Lib.hid hlt
              clear hga hgb hfe
              obtain ⟨x0, x1, x2⟩ := f
              dsimp only at f0 f1 f2 h0 h1 h2
              have hne : (x0 != x0) = false ∧ (x0 == x0) = true ∧ (x1 != x1) = false ∧ (x1 == x1) = true ∧ (x2 != x2) = false ∧ (x2 == x2) = true := by simp
              obtain ⟨n0, m0, n1, m1, n2, m2⟩ := hne
              go_upto_region 16 with fail
              go_quiet (fail)
              have HBZ := Lib.hid (bdrw HB.out nq)
              generalize wr.drewN nq = w5 at *
              go_wp2_with fail
              go_roundw
              case rel => exact ⟨k + 1, HLT.out, by go_num, HBZ⟩
              case measure => simp [intOf]; have := HLT.out; omega
            · obtain rfl : k = g.users.length := by omega
              go_wp2_with fail
              go_ret
              exact ⟨rfl, (HX.out _ HB.out).1⟩
end Go.Proofs.Ytegclodchhcbaaa
