/- Walks: Check of a grid, ours. -/
import Derived.Test.YtegclodchhcbaaaLv
namespace Go.Proofs.Ytegclodchhcbaaa
open Go.RowKit

theorem all_no {α : Type} {l : List α} {p : α → Bool} {k : Nat} (hk : k < l.length) (d : α) (h : p (l.getD k d) = false) : l.all p = false := by
  rw [List.all_eq_false]
  exact ⟨_, getD_mem_of hk d, by rw [h]; decide⟩
theorem all_yes {α : Type} {l : List α} {p : α → Bool} (d : α) (h : ∀ k, k < l.length → p (l.getD k d) = true) : l.all p = true := by
  rw [List.all_eq_true]
  intro x hx
  obtain ⟨k, hk, rfl⟩ := List.mem_iff_getElem.1 hx
  have := h k hk
  rwa [List.getD_eq_getElem?_getD, List.getElem?_eq_getElem hk] at this
theorem upto_step {p : Nat → Prop} {k : Nat} (h : ∀ j, j < k → p j) (hk : p k) (j : Nat) (hj : j < k + 1) : p j := by
  by_cases e : j = k
  · rw [e]; exact hk
  · exact h j (by omega)
section
variable {g : MGrid}
theorem checkG_80 (h : inB g.nodes 1 20 = false) : checkG g = 80 := by unfold checkG; rw [if_pos h]
theorem checkG_2 (h : inB g.nodes 1 20 = true) (h2 : 40 < g.lines.length ∨ 6 < g.srcs.length ∨ 20 < g.users.length) : checkG g = 2 := by
  unfold checkG
  rw [if_neg (by rw [h]; decide), if_pos h2]
theorem checkG_81 (h : inB g.nodes 1 20 = true) (h2 : ¬ (40 < g.lines.length ∨ 6 < g.srcs.length ∨ 20 < g.users.length)) (h3 : g.lines.all (lineB g.nodes) = false) : checkG g = 81 := by
  unfold checkG
  rw [if_neg (by rw [h]; decide), if_neg h2, if_pos h3]
theorem checkG_71 (h : inB g.nodes 1 20 = true) (h2 : ¬ (40 < g.lines.length ∨ 6 < g.srcs.length ∨ 20 < g.users.length)) (h3 : g.lines.all (lineB g.nodes) = true) (h4 : g.srcs.all (srcB g.nodes) = false) : checkG g = 71 := by
  unfold checkG
  rw [if_neg (by rw [h]; decide), if_neg h2, if_neg (by rw [h3]; decide), if_pos h4]
theorem checkG_71' (h : inB g.nodes 1 20 = true) (h2 : ¬ (40 < g.lines.length ∨ 6 < g.srcs.length ∨ 20 < g.users.length)) (h3 : g.lines.all (lineB g.nodes) = true) (h4 : g.srcs.all (srcB g.nodes) = true) (h5 : g.users.all (userB g.nodes) = false) : checkG g = 71 := by
  unfold checkG
  rw [if_neg (by rw [h]; decide), if_neg h2, if_neg (by rw [h3]; decide), if_neg (by rw [h4]; decide), if_pos h5]
theorem checkG_0 (h : inB g.nodes 1 20 = true) (h2 : ¬ (40 < g.lines.length ∨ 6 < g.srcs.length ∨ 20 < g.users.length)) (h3 : g.lines.all (lineB g.nodes) = true) (h4 : g.srcs.all (srcB g.nodes) = true) (h5 : g.users.all (userB g.nodes) = true) : checkG g = 0 := by
  unfold checkG
  rw [if_neg (by rw [h]; decide), if_neg h2, if_neg (by rw [h3]; decide), if_neg (by rw [h4]; decide), if_neg (by rw [h5]; decide)]
end
set_option maxRecDepth 100000 in
theorem node_any (tb : Nat) (nodes x : Int) (w : World) (ht : w.cell? ⟨tb, 0, none⟩ = some (.int .i64 nodes)) (hn : 1 ≤ nodes ∧ nodes ≤ 20) {b : Bool} (hb : inB x 0 (nodes - 1) = b) :
    Calls Try.prog 70 #[.int .i64 x, .pointer (some ⟨tb, 0, none⟩)] w fun e w' => e = .returned (.bool b) ∧ w = w' := by
  have HC := Lib.hid (within_any x 0 (nodes - 1) w hb)
  clear hb
  go_enter Try.func70, Try.ntmps70
  go_wp2_with (go_at_call 69; refine HC.out.mono ?_; rintro e w2 ⟨rfl, rfl⟩)
  go_ret
  exact ⟨rfl, rfl⟩
set_option maxRecDepth 100000 in
set_option maxHeartbeats 8000000 in
theorem check_any (g : MGrid) (A1 A2 A3 : Option Addr) (c1 c2 c3 : Nat) (w : World) (h : GridA w w.heap.size g A1 A2 A3) {r : Int} (hr : checkG g = r) :
    Calls Try.prog 35 #[.agg (gridC g A1 A2 A3 c1 c2 c3)] w fun e w' => e = .returned (.int .i64 r) ∧ Below w.heap.size w w' := by
  unfold gridC
  have hl1 := h.ls.1
  have hl2 := h.ss.1
  have hl3 := h.us.1
  unfold maxLen at hl1 hl2 hl3
  obtain ⟨w1, hw1⟩ : ∃ w1, w.alloc (.cells #[.int .i64 g.nodes, .slice A1 g.lines.length c1, .slice A2 g.srcs.length c2, .slice A3 g.users.length c3] 26) = w1 := ⟨_, rfl⟩
  have hb1 : Below w.heap.size w w1 := by rw [← hw1]; exact (Below.refl _ _).alloc (Nat.le_refl _) _
  have hs1 : w1.heap.size = w.heap.size + 1 := by rw [← hw1]; simp
  have hx1 : w1.heap[w.heap.size]? = some (.cells #[.int .i64 g.nodes, .slice A1 g.lines.length c1, .slice A2 g.srcs.length c2, .slice A3 g.users.length c3] 26 (0, 0)) := by rw [← hw1]; exact heap_alloc_new w _
  have HX : Hid (∀ W, Below w1.heap.size w1 W → W.cell? ⟨w.heap.size, 0, none⟩ = some (.int .i64 g.nodes) ∧ W.cell? ⟨w.heap.size, 1, none⟩ = some (.slice A1 g.lines.length c1) ∧ W.cell? ⟨w.heap.size, 2, none⟩ = some (.slice A2 g.srcs.length c2) ∧ W.cell? ⟨w.heap.size, 3, none⟩ = some (.slice A3 g.users.length c3)) := fun W hW => by
    have h1 := (hW.block w.heap.size (by omega)).trans hx1
    exact ⟨cell_of_row W _ 0 _ _ _ h1, cell_of_row W _ 1 _ _ _ h1, cell_of_row W _ 2 _ _ _ h1, cell_of_row W _ 3 _ _ _ h1⟩
  have HG : Hid (∀ W, Below w1.heap.size w1 W → GridA W w.heap.size g A1 A2 A3 ∧ Below w.heap.size w W) := fun W hW => by
    have h1 := hb1.trans (hW.mono (by omega))
    exact ⟨h.keep h1, h1⟩
  have HR := Lib.hid hr
  obtain ⟨p0, p1, p2, p3⟩ := HX.out w1 (Below.refl _ _)
  clear h hb1 hx1 hr
  rcases h0 : inB g.nodes 1 20
  · have H0 := Lib.hid h0
    clear h0
    go_enter Try.func35, Try.ntmps35
    go_wp2_with (go_at_call 69; refine (within_any _ _ _ _ H0.out).mono ?_; rintro e w2 ⟨rfl, rfl⟩)
    go_ret
    exact ⟨ret_i (by rw [← HR.out, checkG_80 H0.out]), (HG.out _ (Below.refl _ _)).2⟩
  have hnd := inB_iff.1 h0
  have H0 := Lib.hid h0
  clear h0
  by_cases h2 : 40 < g.lines.length ∨ 6 < g.srcs.length ∨ 20 < g.users.length
  · have H2 := Lib.hid h2
    by_cases k1 : 40 < g.lines.length
    · clear h2
      go_enter Try.func35, Try.ntmps35
      go_wp2_with (go_at_call 69; refine (within_any _ _ _ _ H0.out).mono ?_; rintro e w2 ⟨rfl, rfl⟩)
      go_ret
      exact ⟨ret_i (by rw [← HR.out, checkG_2 H0.out H2.out]), (HG.out _ (Below.refl _ _)).2⟩
    · by_cases k2 : 6 < g.srcs.length
      · clear h2
        go_enter Try.func35, Try.ntmps35
        go_wp2_with (go_at_call 69; refine (within_any _ _ _ _ H0.out).mono ?_; rintro e w2 ⟨rfl, rfl⟩)
        go_ret
        exact ⟨ret_i (by rw [← HR.out, checkG_2 H0.out H2.out]), (HG.out _ (Below.refl _ _)).2⟩
      · have k3 : 20 < g.users.length := by omega
        clear h2
        go_enter Try.func35, Try.ntmps35
        go_wp2_with (go_at_call 69; refine (within_any _ _ _ _ H0.out).mono ?_; rintro e w2 ⟨rfl, rfl⟩)
        go_ret
        exact ⟨ret_i (by rw [← HR.out, checkG_2 H0.out H2.out]), (HG.out _ (Below.refl _ _)).2⟩
  have H2 := Lib.hid h2
  have k1 : g.lines.length ≤ 40 := by omega
  have k2 : g.srcs.length ≤ 6 := by omega
  have k3 : g.users.length ≤ 20 := by omega
  clear h2
  go_enter Try.func35, Try.ntmps35
  go_wp2_with (go_at_call 69; refine (within_any _ _ _ _ H0.out).mono ?_; rintro e w2 ⟨rfl, rfl⟩)
  go_loopw [34] (fun vi wr => ∃ k : Nat, k ≤ g.lines.length ∧ vi = .int .i64 k ∧ Hid (Below w1.heap.size w1 wr) ∧ Hid (∀ j, j < k → lineB g.nodes (g.lines.getD j dLine) = true)) (fun vi _ => g.lines.length - (intOf vi).toNat)
  case atStart => exact ⟨0, Nat.zero_le _, rfl, Below.refl _ _, fun j hj => absurd hj (Nat.not_lt_zero _)⟩
  case round =>
    clear p0 p1 p2 p3
    obtain ⟨k, hk, rfl, HB, HN⟩ := hrel
    rename World => wr
    obtain ⟨p0, p1, p2, p3⟩ := HX.out wr HB.out
    have hws := HB.out.size
    by_cases hlt : k < g.lines.length
    · obtain ⟨f, lb, lo, hfe, hA, hlb, f0, f1, f2, f3⟩ := (HG.out wr HB.out).1.ls.at_ hlt
      subst hA
      have HLT := Lib.hid hlt
      have hlB : lineB g.nodes (g.lines.getD k dLine) = (inB f.a 0 (g.nodes - 1) && (inB f.b 0 (g.nodes - 1) && (!(f.a == f.b) && (inB f.limit 0 100000)))) := by rw [hfe]; rfl
      have HBA : Hid (Below w1.heap.size w1 (wr.alloc (.cells #[.int .i64 f.a, .int .i64 f.b, .int .i64 f.limit, .bool f.one] 67))) := HB.out.alloc hws _
      clear hfe
      rcases q1 : inB f.a 0 (g.nodes - 1)
      · have HLB : Hid (lineB g.nodes (g.lines.getD k dLine) = false) := by show _ = _; rw [hlB, q1]; rfl
        have Q1 := Lib.hid q1
        clear hlB q1
        go_wp2_with (go_at_call 70; (with_reducible refine (node_any w.heap.size g.nodes f.a _ (HX.out _ HBA.out).1 hnd Q1.out).mono ?_); rintro e w5 ⟨rfl, rfl⟩)
        go_ret
        exact ⟨ret_i (by rw [← HR.out, checkG_81 H0.out H2.out (all_no HLT.out dLine HLB.out)]), (HG.out _ HBA.out).2⟩
      · rcases q2 : inB f.b 0 (g.nodes - 1)
        · have HLB : Hid (lineB g.nodes (g.lines.getD k dLine) = false) := by show _ = _; rw [hlB, q1, q2]; rfl
          have Q1 := Lib.hid q1
          have Q2 := Lib.hid q2
          clear hlB q1 q2
          go_wp2_with (first
            | (go_at_call 70; (with_reducible refine (node_any w.heap.size g.nodes f.a _ (HX.out _ HBA.out).1 hnd Q1.out).mono ?_); rintro e w5 ⟨rfl, rfl⟩)
            | (go_at_call 70; (with_reducible refine (node_any w.heap.size g.nodes f.b _ (HX.out _ HBA.out).1 hnd Q2.out).mono ?_); rintro e w5 ⟨rfl, rfl⟩))
          go_ret
          exact ⟨ret_i (by rw [← HR.out, checkG_81 H0.out H2.out (all_no HLT.out dLine HLB.out)]), (HG.out _ HBA.out).2⟩
        · rcases q3 : (f.a == f.b)
          · rcases q4 : inB f.limit 0 100000
            · have HLB : Hid (lineB g.nodes (g.lines.getD k dLine) = false) := by show _ = _; rw [hlB, q1, q2, q3, q4]; rfl
              have Q1 := Lib.hid q1
              have Q2 := Lib.hid q2
              have Q4 := Lib.hid q4
              clear hlB q1 q2 q4
              go_wp2_with (first
                | (go_at_call 70; (with_reducible refine (node_any w.heap.size g.nodes f.a _ (HX.out _ HBA.out).1 hnd Q1.out).mono ?_); rintro e w5 ⟨rfl, rfl⟩)
                | (go_at_call 70; (with_reducible refine (node_any w.heap.size g.nodes f.b _ (HX.out _ HBA.out).1 hnd Q2.out).mono ?_); rintro e w5 ⟨rfl, rfl⟩)
                | (go_at_call 69; (with_reducible refine (within_any f.limit 0 100000 _ Q4.out).mono ?_); rintro e w5 ⟨rfl, rfl⟩))
              go_ret
              exact ⟨ret_i (by rw [← HR.out, checkG_81 H0.out H2.out (all_no HLT.out dLine HLB.out)]), (HG.out _ HBA.out).2⟩
            · have HLB : Hid (lineB g.nodes (g.lines.getD k dLine) = true) := by show _ = _; rw [hlB, q1, q2, q3, q4]; rfl
              have Q1 := Lib.hid q1
              have Q2 := Lib.hid q2
              have Q4 := Lib.hid q4
              clear hlB q1 q2 q4
              go_wp2_with (first
                | (go_at_call 70; (with_reducible refine (node_any w.heap.size g.nodes f.a _ (HX.out _ HBA.out).1 hnd Q1.out).mono ?_); rintro e w5 ⟨rfl, rfl⟩)
                | (go_at_call 70; (with_reducible refine (node_any w.heap.size g.nodes f.b _ (HX.out _ HBA.out).1 hnd Q2.out).mono ?_); rintro e w5 ⟨rfl, rfl⟩)
                | (go_at_call 69; (with_reducible refine (within_any f.limit 0 100000 _ Q4.out).mono ?_); rintro e w5 ⟨rfl, rfl⟩))
              go_roundw
              case rel => exact ⟨k + 1, HLT.out, by go_num, HBA, upto_step HN.out HLB.out⟩
              case measure => simp [intOf]; have := HLT.out; omega
          · have HLB : Hid (lineB g.nodes (g.lines.getD k dLine) = false) := by show _ = _; rw [hlB, q1, q2, q3]; rfl
            have Q1 := Lib.hid q1
            have Q2 := Lib.hid q2
            clear hlB q1 q2
            go_wp2_with (first
              | (go_at_call 70; (with_reducible refine (node_any w.heap.size g.nodes f.a _ (HX.out _ HBA.out).1 hnd Q1.out).mono ?_); rintro e w5 ⟨rfl, rfl⟩)
              | (go_at_call 70; (with_reducible refine (node_any w.heap.size g.nodes f.b _ (HX.out _ HBA.out).1 hnd Q2.out).mono ?_); rintro e w5 ⟨rfl, rfl⟩))
            go_ret
            exact ⟨ret_i (by rw [← HR.out, checkG_81 H0.out H2.out (all_no HLT.out dLine HLB.out)]), (HG.out _ HBA.out).2⟩
    · obtain rfl : g.lines.length = k := by omega
      have HLA : Hid (g.lines.all (lineB g.nodes) = true) := all_yes dLine HN.out
      go_wp2_with fail
      clear HN
      go_loopw [67] (fun vi wr => ∃ k : Nat, k ≤ g.srcs.length ∧ vi = .int .i64 k ∧ Hid (Below w1.heap.size w1 wr) ∧ Hid (∀ j, j < k → srcB g.nodes (g.srcs.getD j dSrc) = true)) (fun vi _ => g.srcs.length - (intOf vi).toNat)
      case atStart => exact ⟨0, Nat.zero_le _, rfl, HB, fun j hj => absurd hj (Nat.not_lt_zero _)⟩
      case round =>
        clear p0 p1 p2 p3 HB hws
        obtain ⟨k, hk, rfl, HB, HN⟩ := hrel
        rename World => wr
        obtain ⟨p0, p1, p2, p3⟩ := HX.out wr HB.out
        have hws := HB.out.size
        by_cases hlt : k < g.srcs.length
        · obtain ⟨f, lb, lo, hfe, hA, hlb, f0, f1⟩ := (HG.out wr HB.out).1.ss.at_ hlt
          subst hA
          have HLT := Lib.hid hlt
          have hlB : srcB g.nodes (g.srcs.getD k dSrc) = (inB f.node 0 (g.nodes - 1) && (inB f.power 0 100000)) := by rw [hfe]; rfl
          have HBA : Hid (Below w1.heap.size w1 (wr.alloc (.cells #[.int .i64 f.node, .int .i64 f.power] 57))) := HB.out.alloc hws _
          clear hfe
          rcases q1 : inB f.node 0 (g.nodes - 1)
          · have HLB : Hid (srcB g.nodes (g.srcs.getD k dSrc) = false) := by show _ = _; rw [hlB, q1]; rfl
            have Q1 := Lib.hid q1
            clear hlB q1
            go_wp2_with (go_at_call 70; (with_reducible refine (node_any w.heap.size g.nodes f.node _ (HX.out _ HBA.out).1 hnd Q1.out).mono ?_); rintro e w5 ⟨rfl, rfl⟩)
            go_ret
            exact ⟨ret_i (by rw [← HR.out, checkG_71 H0.out H2.out HLA.out (all_no HLT.out dSrc HLB.out)]), (HG.out _ HBA.out).2⟩
          · rcases q2 : inB f.power 0 100000
            · have HLB : Hid (srcB g.nodes (g.srcs.getD k dSrc) = false) := by show _ = _; rw [hlB, q1, q2]; rfl
              have Q1 := Lib.hid q1
              have Q2 := Lib.hid q2
              clear hlB q1 q2
              go_wp2_with (first
                | (go_at_call 70; (with_reducible refine (node_any w.heap.size g.nodes f.node _ (HX.out _ HBA.out).1 hnd Q1.out).mono ?_); rintro e w5 ⟨rfl, rfl⟩)
                | (go_at_call 69; (with_reducible refine (within_any f.power 0 100000 _ Q2.out).mono ?_); rintro e w5 ⟨rfl, rfl⟩))
              go_ret
              exact ⟨ret_i (by rw [← HR.out, checkG_71 H0.out H2.out HLA.out (all_no HLT.out dSrc HLB.out)]), (HG.out _ HBA.out).2⟩
            · have HLB : Hid (srcB g.nodes (g.srcs.getD k dSrc) = true) := by show _ = _; rw [hlB, q1, q2]; rfl
              have Q1 := Lib.hid q1
              have Q2 := Lib.hid q2
              clear hlB q1 q2
              go_wp2_with (first
                | (go_at_call 70; (with_reducible refine (node_any w.heap.size g.nodes f.node _ (HX.out _ HBA.out).1 hnd Q1.out).mono ?_); rintro e w5 ⟨rfl, rfl⟩)
                | (go_at_call 69; (with_reducible refine (within_any f.power 0 100000 _ Q2.out).mono ?_); rintro e w5 ⟨rfl, rfl⟩))
              go_roundw
              case rel => exact ⟨k + 1, HLT.out, by go_num, HBA, upto_step HN.out HLB.out⟩
              case measure => simp [intOf]; have := HLT.out; omega
        · obtain rfl : g.srcs.length = k := by omega
          have HSA : Hid (g.srcs.all (srcB g.nodes) = true) := all_yes dSrc HN.out
          go_wp2_with fail
          clear HN
          go_loopw [86] (fun vi wr => ∃ k : Nat, k ≤ g.users.length ∧ vi = .int .i64 k ∧ Hid (Below w1.heap.size w1 wr) ∧ Hid (∀ j, j < k → userB g.nodes (g.users.getD j dUser) = true)) (fun vi _ => g.users.length - (intOf vi).toNat)
          case atStart => exact ⟨0, Nat.zero_le _, rfl, HB, fun j hj => absurd hj (Nat.not_lt_zero _)⟩
          case round =>
            clear p0 p1 p2 p3 HB hws
            obtain ⟨k, hk, rfl, HB, HN⟩ := hrel
            rename World => wr
            obtain ⟨p0, p1, p2, p3⟩ := HX.out wr HB.out
            have hws := HB.out.size
            by_cases hlt : k < g.users.length
            · obtain ⟨f, lb, lo, hfe, hA, hlb, f0, f1, f2⟩ := (HG.out wr HB.out).1.us.at_ hlt
              subst hA
              have HLT := Lib.hid hlt
              have hlB : userB g.nodes (g.users.getD k dUser) = (inB f.node 0 (g.nodes - 1) && (inB f.power 1 100000 && (inB f.level 0 4))) := by rw [hfe]; rfl
              have HBA : Hid (Below w1.heap.size w1 (wr.alloc (.cells #[.int .i64 f.node, .int .i64 f.power, .int .i64 f.level] 55))) := HB.out.alloc hws _
              clear hfe
              rcases q1 : inB f.node 0 (g.nodes - 1)
              · have HLB : Hid (userB g.nodes (g.users.getD k dUser) = false) := by show _ = _; rw [hlB, q1]; rfl
                have Q1 := Lib.hid q1
                clear hlB q1
                go_wp2_with (go_at_call 70; (with_reducible refine (node_any w.heap.size g.nodes f.node _ (HX.out _ HBA.out).1 hnd Q1.out).mono ?_); rintro e w5 ⟨rfl, rfl⟩)
                go_ret
                exact ⟨ret_i (by rw [← HR.out, checkG_71' H0.out H2.out HLA.out HSA.out (all_no HLT.out dUser HLB.out)]), (HG.out _ HBA.out).2⟩
              · rcases q2 : inB f.power 1 100000
                · have HLB : Hid (userB g.nodes (g.users.getD k dUser) = false) := by show _ = _; rw [hlB, q1, q2]; rfl
                  have Q1 := Lib.hid q1
                  have Q2 := Lib.hid q2
                  clear hlB q1 q2
                  go_wp2_with (first
                    | (go_at_call 70; (with_reducible refine (node_any w.heap.size g.nodes f.node _ (HX.out _ HBA.out).1 hnd Q1.out).mono ?_); rintro e w5 ⟨rfl, rfl⟩)
                    | (go_at_call 69; (with_reducible refine (within_any f.power 1 100000 _ Q2.out).mono ?_); rintro e w5 ⟨rfl, rfl⟩))
                  go_ret
                  exact ⟨ret_i (by rw [← HR.out, checkG_71' H0.out H2.out HLA.out HSA.out (all_no HLT.out dUser HLB.out)]), (HG.out _ HBA.out).2⟩
                · rcases q3 : inB f.level 0 4
                  · have HLB : Hid (userB g.nodes (g.users.getD k dUser) = false) := by show _ = _; rw [hlB, q1, q2, q3]; rfl
                    have Q1 := Lib.hid q1
                    have Q2 := Lib.hid q2
                    have Q3 := Lib.hid q3
                    clear hlB q1 q2 q3
                    go_wp2_with (first
                      | (go_at_call 70; (with_reducible refine (node_any w.heap.size g.nodes f.node _ (HX.out _ HBA.out).1 hnd Q1.out).mono ?_); rintro e w5 ⟨rfl, rfl⟩)
                      | (go_at_call 69; (with_reducible refine (within_any f.power 1 100000 _ Q2.out).mono ?_); rintro e w5 ⟨rfl, rfl⟩)
                      | (go_at_call 69; (with_reducible refine (within_any f.level 0 4 _ Q3.out).mono ?_); rintro e w5 ⟨rfl, rfl⟩))
                    go_ret
                    exact ⟨ret_i (by rw [← HR.out, checkG_71' H0.out H2.out HLA.out HSA.out (all_no HLT.out dUser HLB.out)]), (HG.out _ HBA.out).2⟩
                  · have HLB : Hid (userB g.nodes (g.users.getD k dUser) = true) := by show _ = _; rw [hlB, q1, q2, q3]; rfl
                    have Q1 := Lib.hid q1
                    have Q2 := Lib.hid q2
                    have Q3 := Lib.hid q3
                    clear hlB q1 q2 q3
                    go_wp2_with (first
                      | (go_at_call 70; (with_reducible refine (node_any w.heap.size g.nodes f.node _ (HX.out _ HBA.out).1 hnd Q1.out).mono ?_); rintro e w5 ⟨rfl, rfl⟩)
                      | (go_at_call 69; (with_reducible refine (within_any f.power 1 100000 _ Q2.out).mono ?_); rintro e w5 ⟨rfl, rfl⟩)
                      | (go_at_call 69; (with_reducible refine (within_any f.level 0 4 _ Q3.out).mono ?_); rintro e w5 ⟨rfl, rfl⟩))
                    go_roundw
                    case rel => exact ⟨k + 1, HLT.out, by go_num, HBA, upto_step HN.out HLB.out⟩
                    case measure => simp [intOf]; have := HLT.out; omega
            · obtain rfl : g.users.length = k := by omega
              have HUA : Hid (g.users.all (userB g.nodes) = true) := all_yes dUser HN.out
              go_wp2_with fail
              go_ret
              exact ⟨ret_i (by rw [← HR.out, checkG_0 H0.out H2.out HLA.out HSA.out HUA.out]), (HG.out _ HB.out).2⟩
end Go.Proofs.Ytegclodchhcbaaa
