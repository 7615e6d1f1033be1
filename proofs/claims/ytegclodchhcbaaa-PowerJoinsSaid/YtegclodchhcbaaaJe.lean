/- Walk: Join: ours. Printed by gen_jd8.py. -/
import Derived.Test.YtegclodchhcbaaaJd
import Derived.Test.YtegclodchhcbaaaFo
import Derived.Deep.RegionHeld3
namespace Go.Proofs.Ytegclodchhcbaaa
open Go.RowKit

set_option maxRecDepth 100000 in
set_option maxHeartbeats 8000000 in
theorem oJoin_any (a b : MGrid) (A1 A2 A3 : Option Addr) (c1 c2 c3 : Nat) (B1 B2 B3 : Option Addr) (d1 d2 d3 : Nat) (ff tt la lb lim : Int) (one : Bool) (w : World) (h : GridA w w.heap.size a A1 A2 A3) (h' : GridA w w.heap.size b B1 B2 B3) :
    Calls Try.prog 44 #[.agg (gridC a A1 A2 A3 c1 c2 c3), .agg (gridC b B1 B2 B3 d1 d2 d3), .int .i64 ff, .int .i64 tt, .agg #[.int .i64 la, .int .i64 lb, .int .i64 lim, .bool one]] w (JoinP a b ff tt lim one w) := by
  obtain ⟨w1, hw1⟩ : ∃ w1, (((w.alloc (.cells #[.int .i64 a.nodes, .slice A1 a.lines.length c1, .slice A2 a.srcs.length c2, .slice A3 a.users.length c3] 26)).alloc (.cells #[.int .i64 b.nodes, .slice B1 b.lines.length d1, .slice B2 b.srcs.length d2, .slice B3 b.users.length d3] 26)).alloc (.cells #[.int .i64 la, .int .i64 lb, .int .i64 lim, .bool one] 67)).alloc (.cells #[.int .i64 0, .slice none 0 0, .slice none 0 0, .slice none 0 0] 26) = w1 := ⟨_, rfl⟩
  obtain ⟨k1, k2, k3, k4, hs1, hb1⟩ := four_made w _ _ _ _ w1 hw1.symm
  have HX : Hid (∀ W, Below (w.heap.size + 2) w1 W → Below w.heap.size w W ∧ (W.cell? ⟨w.heap.size, 0, none⟩ = some (.int .i64 a.nodes) ∧ W.cell? ⟨w.heap.size, 1, none⟩ = some (.slice A1 a.lines.length c1) ∧ W.cell? ⟨w.heap.size, 2, none⟩ = some (.slice A2 a.srcs.length c2) ∧ W.cell? ⟨w.heap.size, 3, none⟩ = some (.slice A3 a.users.length c3)) ∧ W.cell? ⟨w.heap.size + 1, 0, none⟩ = some (.int .i64 b.nodes) ∧ W.cell? ⟨w.heap.size + 1, 1, none⟩ = some (.slice B1 b.lines.length d1) ∧ W.cell? ⟨w.heap.size + 1, 2, none⟩ = some (.slice B2 b.srcs.length d2) ∧ W.cell? ⟨w.heap.size + 1, 3, none⟩ = some (.slice B3 b.users.length d3)) := fun W hW => by
    have h1 := (hW.block w.heap.size (by omega)).trans k1
    have h2 := (hW.block (w.heap.size + 1) (by omega)).trans k2
    exact ⟨hb1.trans (hW.mono (by omega)), ⟨cell_of_row W _ 0 _ _ _ h1, cell_of_row W _ 1 _ _ _ h1, cell_of_row W _ 2 _ _ _ h1, cell_of_row W _ 3 _ _ _ h1⟩, cell_of_row W _ 0 _ _ _ h2, cell_of_row W _ 1 _ _ _ h2, cell_of_row W _ 2 _ _ _ h2, cell_of_row W _ 3 _ _ _ h2⟩
  have HBJ : Hid (BelJ w1 w.heap.size #[.int .i64 la, .int .i64 lb, .int .i64 lim, .bool one] w1) := ⟨Below.refl _ _, k3, k4, by omega⟩
  have HG : Hid (∀ W, Below w.heap.size w W → GridA W W.heap.size a A1 A2 A3 ∧ GridA W W.heap.size b B1 B2 B3) := fun W hW => ⟨(h.keep hW).more hW.size, (h'.keep hW).more hW.size⟩
  have HS1 := Lib.hid hs1
  obtain ⟨Ea, hEa⟩ : ∃ Ea, checkG a = Ea := ⟨_, rfl⟩
  obtain ⟨Eb, hEb⟩ : ∃ Eb, checkG b = Eb := ⟨_, rfl⟩
  have HCA : Hid (∀ W, Below w.heap.size w W → Calls Try.prog 35 #[.agg (gridC a A1 A2 A3 c1 c2 c3)] W fun e w' => e = .returned (.int .i64 Ea) ∧ Below W.heap.size W w') := fun W hW => check_any a A1 A2 A3 c1 c2 c3 W (HG.out W hW).1 hEa
  have HCB : Hid (∀ W, Below w.heap.size w W → Calls Try.prog 35 #[.agg (gridC b B1 B2 B3 d1 d2 d3)] W fun e w' => e = .returned (.int .i64 Eb) ∧ Below W.heap.size W w') := fun W hW => check_any b B1 B2 B3 d1 d2 d3 W (HG.out W hW).2 hEb
  obtain ⟨_, ⟨p0, p1, p2, p3⟩, q0, q1, q2, q3⟩ := HX.out w1 (Below.refl _ _)
  unfold gridC at HCA HCB ⊢
  clear h h' hb1 k1 k2 k3 k4 hs1
  by_cases hza : Ea = 0
  · subst hza
    by_cases hzb : Eb = 0
    · subst hzb
      obtain ⟨na, hga⟩ := checkG_ok hEa
      obtain ⟨nb, hgb⟩ := checkG_ok hEb
      have hna := hga.nodes
      have hnb := hgb.nodes
      have hfa := hga.few
      have hfb := hgb.few
      obtain ⟨i1, hi1⟩ : ∃ i1, inB ff 0 (a.nodes - 1) = i1 := ⟨_, rfl⟩
      obtain ⟨i2, hi2⟩ : ∃ i2, inB tt 0 (b.nodes - 1) = i2 := ⟨_, rfl⟩
      have HW1 : Hid (∀ W, Calls Try.prog 69 #[.int .i64 ff, .int .i64 0, .int .i64 (a.nodes - 1)] W fun e w' => e = .returned (.bool i1) ∧ W = w') := fun W => within_any ff 0 (a.nodes - 1) W hi1
      have HW2 : Hid (∀ W, Calls Try.prog 69 #[.int .i64 tt, .int .i64 0, .int .i64 (b.nodes - 1)] W fun e w' => e = .returned (.bool i2) ∧ W = w') := fun W => within_any tt 0 (b.nodes - 1) W hi2
      have ra : 1 ≤ a.nodes ∧ a.nodes ≤ 20 := by omega
      have rb' : 1 ≤ b.nodes ∧ b.nodes ≤ 20 := by omega
      obtain ⟨ra1, ra2⟩ := ra
      obtain ⟨rb1, rb2⟩ := rb'
      by_cases hin : (i1 && i2) = true
      · obtain ⟨rfl, rfl⟩ : i1 = true ∧ i2 = true := by simpa using hin
        rw [inB_iff] at hi1 hi2
        obtain ⟨hf0, hf1⟩ := hi1
        obtain ⟨ht0, ht1⟩ := hi2
        have HC76 : Hid (∀ W, BelJ w1 w.heap.size #[.int .i64 la, .int .i64 lb, .int .i64 lim, .bool one] W → Calls Try.prog 76 #[.slice A1 a.lines.length c1] W fun e w' => ∃ E e', e = .returned (.slice E a.lines.length e') ∧ ORow w' (w.heap.size + 4) 67 4 E e' a.lines.length (lineCell a.lines) ∧ Below W.heap.size W w') := fun W hW => (clone76_any A1 a.lines.length c1 (lineCell a.lines) W (HG.out W (HX.out W hW.bel).1).1.ls.2 (by have := hga.nl; have := hga.ns; have := hga.nu; omega)).mono fun e w' ⟨A', c', he, ho, hb⟩ => ⟨A', c', he, ho.base hW.sz, hb⟩
        have HC77 : Hid (∀ W, BelJ w1 w.heap.size #[.int .i64 la, .int .i64 lb, .int .i64 lim, .bool one] W → Calls Try.prog 77 #[.slice A2 a.srcs.length c2] W fun e w' => ∃ E e', e = .returned (.slice E a.srcs.length e') ∧ ORow w' (w.heap.size + 4) 57 2 E e' a.srcs.length (srcCell a.srcs) ∧ Below W.heap.size W w') := fun W hW => (clone77_any A2 a.srcs.length c2 (srcCell a.srcs) W (HG.out W (HX.out W hW.bel).1).1.ss.2 (by have := hga.nl; have := hga.ns; have := hga.nu; omega)).mono fun e w' ⟨A', c', he, ho, hb⟩ => ⟨A', c', he, ho.base hW.sz, hb⟩
        have HC78 : Hid (∀ W, BelJ w1 w.heap.size #[.int .i64 la, .int .i64 lb, .int .i64 lim, .bool one] W → Calls Try.prog 78 #[.slice A3 a.users.length c3] W fun e w' => ∃ E e', e = .returned (.slice E a.users.length e') ∧ ORow w' (w.heap.size + 4) 55 3 E e' a.users.length (userCell a.users) ∧ Below W.heap.size W w') := fun W hW => (clone78_any A3 a.users.length c3 (userCell a.users) W (HG.out W (HX.out W hW.bel).1).1.us.2 (by have := hga.nl; have := hga.ns; have := hga.nu; omega)).mono fun e w' ⟨A', c', he, ho, hb⟩ => ⟨A', c', he, ho.base hW.sz, hb⟩
        have HGA := Lib.hid hga
        have HGB := Lib.hid hgb
        have HEA := Lib.hid hEa
        have HEB := Lib.hid hEb
        clear hga hgb hEa hEb hna hnb hfa hfb hin
        go_enter Try.func44, Try.ntmps44
        go_upto_region 9 with (first
          | (go_at_call 35; with_reducible refine (HCA.out _ (HX.out _ HBJ.out.bel).1).mono ?_; rintro e w2 ⟨rfl, hb2⟩; have HB2 := Lib.hid (HBJ.out.next hb2); clear hb2 p0 p1 p2 p3 q0 q1 q2 q3; obtain ⟨_, ⟨p0, p1, p2, p3⟩, q0, q1, q2, q3⟩ := HX.out w2 HB2.out.bel)
          | (go_at_call 35; with_reducible refine (HCB.out _ (HX.out _ HB2.out.bel).1).mono ?_; rintro e w3 ⟨rfl, hb3⟩; have HB3 := Lib.hid (HB2.out.next hb3); clear hb3 p0 p1 p2 p3 q0 q1 q2 q3; obtain ⟨_, ⟨p0, p1, p2, p3⟩, q0, q1, q2, q3⟩ := HX.out w3 HB3.out.bel)
          | (go_at_call 69; with_reducible refine (HW1.out _).mono ?_; rintro e w4 ⟨rfl, rfl⟩)
          | (go_at_call 69; with_reducible refine (HW2.out _).mono ?_; rintro e w4 ⟨rfl, rfl⟩)
          | fail)
        have hwr : IntKind.i64.wrap (a.nodes + b.nodes) = a.nodes + b.nodes := IntWalk.i64_in _ (by omega)
        have hB3 := HB3.out
        have hz3 := hB3.sz
        have HX5 : Hid (∀ W, BelJ w1 w.heap.size #[.int .i64 la, .int .i64 lb, .int .i64 lim, .bool one] W → (W.cell? ⟨w.heap.size, 0, none⟩ = some (.int .i64 a.nodes) ∧ W.cell? ⟨w.heap.size, 1, none⟩ = some (.slice A1 a.lines.length c1) ∧ W.cell? ⟨w.heap.size, 2, none⟩ = some (.slice A2 a.srcs.length c2) ∧ W.cell? ⟨w.heap.size, 3, none⟩ = some (.slice A3 a.users.length c3)) ∧ W.cell? ⟨w.heap.size + 1, 0, none⟩ = some (.int .i64 b.nodes)) := fun W hW => ⟨(HX.out W hW.bel).2.1, (HX.out W hW.bel).2.2.1⟩
        have hl3 : w.heap.size < w3.heap.size := by have := HB3.out.sz; omega
        have hm3 : w.heap.size + 1 < w3.heap.size := by have := HB3.out.sz; omega
        clear HW1 HW2 HCA HCB
        go_cut [14] (fun vn wx => ∃ bx E1 E2 E3 e1 e2 e3, vn = .pointer (some ⟨bx, 0, none⟩) ∧ Hid (w.heap.size + 4 ≤ bx) ∧ Hid (JS wx (w.heap.size + 4) bx (a.nodes + b.nodes) E1 E2 E3 e1 e2 e3 a) ∧ Hid (BelJ w1 w.heap.size #[.int .i64 la, .int .i64 lb, .int .i64 lim, .bool one] wx))
        case first =>
          go_region_held3 (fun W => (W.cell? ⟨w.heap.size, 0, none⟩ = some (.int .i64 a.nodes) ∧ W.cell? ⟨w.heap.size, 1, none⟩ = some (.slice A1 a.lines.length c1) ∧ W.cell? ⟨w.heap.size, 2, none⟩ = some (.slice A2 a.srcs.length c2) ∧ W.cell? ⟨w.heap.size, 3, none⟩ = some (.slice A3 a.users.length c3)) ∧ W.cell? ⟨w.heap.size + 1, 0, none⟩ = some (.int .i64 b.nodes)) (first | (refine HX5.out _ ?_; (repeat' (first | assumption | apply belj_alloc | apply belj_drew | apply belj_set)); done) | fail) ((first
            | (go_at_call 76; (with_reducible refine (HC76.out _ (by repeat' (first | assumption | apply belj_alloc | apply belj_drew))).mono ?_); rintro e' w5 ⟨E1, e1, rfl, ho5, hb5⟩; have HO5 := Lib.hid ho5; (try have HZ5 := Lib.hid ((hb5.block w3.heap.size (by simp)).trans (show (w3.alloc (.cells #[.int .i64 0, .slice none 0 0, .slice none 0 0, .slice none 0 0] 26)).drew.heap[w3.heap.size]? = _ from heap_alloc_new w3 (.cells #[.int .i64 0, .slice none 0 0, .slice none 0 0, .slice none 0 0] 26)))); have hB5 : BelJ w1 w.heap.size #[.int .i64 la, .int .i64 lb, .int .i64 lim, .bool one] w5 := BelJ.next (by repeat' (first | assumption | apply belj_alloc | apply belj_drew)) hb5;  obtain ⟨⟨k0, k1, k2, k3⟩, j0⟩ := HX5.out w5 hB5; have hl5 : w.heap.size < w5.heap.size := (by have := hB5.sz; omega); have hm5 : w.heap.size + 1 < w5.heap.size := (by have := hB5.sz; omega); have hz5 : w.heap.size + 4 ≤ w5.heap.size := hB5.sz; clear hb5 ho5)
            | (go_at_call 77; (with_reducible refine (HC77.out _ (by repeat' (first | assumption | apply belj_alloc | apply belj_drew))).mono ?_); rintro e' w6 ⟨E2, e2, rfl, ho6, hb6⟩; have HO6 := Lib.hid ho6; (try have HZ6 := Lib.hid ((hb6.block w5.heap.size (by simp)).trans (heap_alloc_new w5 (.cells #[.int .i64 0, .slice none 0 0, .slice none 0 0, .slice none 0 0] 26)))); (try have HZ6 := Lib.hid ((hb6.block w3.heap.size (lt_of_cells HZ5.out)).trans HZ5.out)); have hB6 : BelJ w1 w.heap.size #[.int .i64 la, .int .i64 lb, .int .i64 lim, .bool one] w6 := BelJ.next (by repeat' (first | assumption | apply belj_alloc | apply belj_drew)) hb6; have K56 : Below w5.heap.size w5 w6 := (by first | exact hb6 | exact ((Below.refl _ _).alloc (Nat.le_refl _) _).trans (hb6.mono (by simp))); obtain ⟨⟨k0, k1, k2, k3⟩, j0⟩ := HX5.out w6 hB6; have hl6 : w.heap.size < w6.heap.size := (by have := hB6.sz; omega); have hm6 : w.heap.size + 1 < w6.heap.size := (by have := hB6.sz; omega); have hz6 : w.heap.size + 4 ≤ w6.heap.size := hB6.sz; clear hb6 ho6)
            | (go_at_call 78; (with_reducible refine (HC78.out _ (by repeat' (first | assumption | apply belj_alloc | apply belj_drew))).mono ?_); rintro e' w7 ⟨E3, e3, rfl, ho7, hb7⟩; have HO7 := Lib.hid ho7; (try have HZ7 := Lib.hid ((hb7.block w6.heap.size (by simp)).trans (heap_alloc_new w6 (.cells #[.int .i64 0, .slice none 0 0, .slice none 0 0, .slice none 0 0] 26)))); (try have HZ7 := Lib.hid ((hb7.block w5.heap.size (lt_of_cells HZ6.out)).trans HZ6.out)); (try have HZ7 := Lib.hid ((hb7.block w3.heap.size (lt_of_cells HZ6.out)).trans HZ6.out)); have hB7 : BelJ w1 w.heap.size #[.int .i64 la, .int .i64 lb, .int .i64 lim, .bool one] w7 := BelJ.next (by repeat' (first | assumption | apply belj_alloc | apply belj_drew)) hb7; have K67 : Below w6.heap.size w6 w7 := (by first | exact hb7 | exact ((Below.refl _ _).alloc (Nat.le_refl _) _).trans (hb7.mono (by simp))); have HR5 := Lib.hid ((HO5.out.next K56).next K67); have HR6 := Lib.hid (HO6.out.next K67); (try have y0 := cell_of_row w7 _ 0 _ _ _ HZ7.out); (try have y1 := cell_of_row w7 _ 1 _ _ _ HZ7.out); (try have y2 := cell_of_row w7 _ 2 _ _ _ HZ7.out); (try have y3 := cell_of_row w7 _ 3 _ _ _ HZ7.out); (try have f0 := row_frozen HZ7.out 0); (try have f1 := row_frozen HZ7.out 1); (try have f2 := row_frozen HZ7.out 2); (try have f3 := row_frozen HZ7.out 3); (try simp only [List.getElem?_toArray, List.getElem?_cons_succ, List.getElem?_cons_zero] at y0 y1 y2 y3); obtain ⟨⟨k0, k1, k2, k3⟩, j0⟩ := HX5.out w7 hB7; have hl7 : w.heap.size < w7.heap.size := (by have := hB7.sz; omega); have hm7 : w.heap.size + 1 < w7.heap.size := (by have := hB7.sz; omega); have hz7 : w.heap.size + 4 ≤ w7.heap.size := hB7.sz; clear hb7 ho7)
            | fail))
          all_goals
            go_wp2_with fail
            go_meet
          all_goals (first
            | exact ⟨_, E1, E2, E3, e1, e2, e3, rfl, hz7, JS.new HR5.out HR6.out HO7.out, hB7.next ((Below.refl _ _).alloc (Nat.le_refl _) _)⟩
            | exact ⟨_, E1, E2, E3, e1, e2, e3, rfl, hz3, JS.of HR5.out HR6.out HO7.out HZ7.out, belJ_set4 hB7 hz3 _ _ _ _⟩
            | exact ⟨_, E1, E2, E3, e1, e2, e3, rfl, hz5, JS.of HR5.out HR6.out HO7.out HZ7.out, belJ_set4 hB7 hz5 _ _ _ _⟩
            | exact ⟨_, E1, E2, E3, e1, e2, e3, rfl, hz6, JS.of HR5.out HR6.out HO7.out HZ7.out, belJ_set4 hB7 hz6 _ _ _ _⟩)
        case rest =>
          obtain ⟨bx, E1, E2, E3, e1, e2, e3, rfl, HBX, HJ, HBW⟩ := hcut
          rename World => wx
          clear hwr HC76 HC77 HC78 hz3 hl3 hm3 hB3
          obtain ⟨⟨p0, p1, p2, p3⟩, q0, q1, q2, q3⟩ := (HX.out wx HBW.out.bel).2
          go_wp2_with fail
          clear p0 p1 p2 p3 q0 q1 q2 q3
          go_loopw [67] (fun vk wr => ∃ (k : Nat) (E1 : Option Addr) (e1 : Nat), k ≤ b.lines.length ∧ vk = .int .i64 k ∧ Hid (JS wr (w.heap.size + 4) bx (a.nodes + b.nodes) E1 E2 E3 e1 e2 e3 ⟨a.nodes, a.lines ++ (b.lines.take k).map (shL a.nodes), a.srcs, a.users⟩) ∧ Hid (BelJ w1 w.heap.size #[.int .i64 la, .int .i64 lb, .int .i64 lim, .bool one] wr)) (fun vk _ => b.lines.length - (intOf vk).toNat)
          case atStart => exact ⟨0, E1, e1, Nat.zero_le _, rfl, by rw [List.take_zero, List.map_nil, List.append_nil]; exact HJ.out, HBW.out⟩
          case round =>
            clear HJ HBW
            obtain ⟨k, E1, e1, hk, rfl, HJ, HB⟩ := hrel
            rename World => wr
            obtain ⟨_, ⟨p0, p1, p2, p3⟩, q0, q1, q2, q3⟩ := HX.out wr HB.out.bel
            have hnl : b.lines.length ≤ 40 := by have := HGB.out.nl; have := HGB.out.ns; have := HGB.out.nu; omega
            have hna : a.lines.length ≤ 40 := by have := HGA.out.nl; have := HGA.out.ns; have := HGA.out.nu; omega
            by_cases hlt : k < b.lines.length
            · have HLT := Lib.hid hlt
              obtain ⟨⟨xa, xb, xl, xo⟩, fb, off, hx, hB, hfb, x0, x1, x2, x3⟩ := (HG.out wr (HX.out wr HB.out.bel).1).2.ls.at_ hlt
              dsimp only at x0 x1 x2 x3
              have hxb := HGB.out.line _ (show (⟨xa, xb, xl, xo⟩ : MLine) ∈ b.lines by rw [← hx]; exact getD_mem_of hlt dLine)
              dsimp only at hxb
              obtain ⟨⟨v0, v1⟩, ⟨v2, v3⟩, _⟩ := hxb
              subst hB
              have hfb2 := HGB.out.few
              have v1' : xa < 20 := by omega
              have v3' : xb < 20 := by omega
              obtain ⟨Lk, hLk⟩ : ∃ Lk, a.lines ++ (b.lines.take k).map (shL a.nodes) = Lk := ⟨_, rfl⟩
              have HST : Hid (a.lines ++ (b.lines.take (k + 1)).map (shL a.nodes) = Lk ++ [⟨xa + a.nodes, xb + a.nodes, xl, xo⟩]) := by
                show _ = _
                rw [take_snocL hlt, ← List.append_assoc, hLk, hx]
                rfl
              have HLN : Hid (Lk.length + 1 ≤ 1000) := by
                show _ ≤ _
                rw [← hLk]
                simp only [List.length_append, List.length_map, List.length_take]
                omega
              rw [hLk] at HJ
              clear hLk hx hfb2 hna
              have hl : w.heap.size < wr.heap.size := by have := HB.out.sz; omega
              have hm : w.heap.size + 1 < wr.heap.size := by have := HB.out.sz; omega
              go_upto_region 13 with fail
              obtain ⟨w5, hw5⟩ : ∃ w5, wr.alloc (.cells #[.int .i64 xa, .int .i64 xb, .int .i64 xl, .bool xo] 67) = w5 := ⟨_, rfl⟩
              have hb5 : Below wr.heap.size wr w5 := by rw [← hw5]; exact (Below.refl _ _).alloc (Nat.le_refl _) _
              have hh5 : w5.heap[wr.heap.size]? = some (.cells #[.int .i64 xa, .int .i64 xb, .int .i64 xl, .bool xo] 67 (0, 0)) := by rw [← hw5]; exact heap_alloc_new wr _
              have HH5 := Lib.hid hh5
              have HB5 := Lib.hid (HB.out.next hb5)
              have HB5w := Lib.hid hb5
              rw [hw5]
              clear p0 p1 p2 p3 q0 q1 q2 q3 x0 x1 x2 x3 hl hm hw5
              obtain ⟨_, ⟨p0, p1, p2, p3⟩, q0, q1, q2, q3⟩ := HX.out w5 HB5.out.bel
              have y0 := cell_of_row w5 _ 0 _ _ _ hh5
              have y1 := cell_of_row w5 _ 1 _ _ _ hh5
              have f0 := row_frozen hh5 0
              have f1 := row_frozen hh5 1
              simp only [List.getElem?_toArray, List.getElem?_cons_succ, List.getElem?_cons_zero] at y0 y1
              clear hh5 hb5
              have r1 : IntKind.i64.wrap (xa + a.nodes) = xa + a.nodes := IntWalk.i64_in _ (by omega)
              have r2 : IntKind.i64.wrap (xb + a.nodes) = xb + a.nodes := IntWalk.i64_in _ (by omega)
              have hB5 := HB5.out
              have hzr : w.heap.size + 4 ≤ wr.heap.size := HB.out.sz
              have hlr : w.heap.size < wr.heap.size := by omega
              have hne : ¬ w.heap.size = wr.heap.size := by omega
              have HF1 : Hid (BelJ w1 w.heap.size #[.int .i64 la, .int .i64 lb, .int .i64 lim, .bool one] ((w5.setCell ⟨wr.heap.size, 0, none⟩ (.int .i64 (xa + a.nodes))).setCell ⟨wr.heap.size, 1, none⟩ (.int .i64 (xb + a.nodes)))) := (hB5.set 0 hzr _).set 1 hzr _
              have HF2 : Hid (((w5.setCell ⟨wr.heap.size, 0, none⟩ (.int .i64 (xa + a.nodes))).setCell ⟨wr.heap.size, 1, none⟩ (.int .i64 (xb + a.nodes))).heap[wr.heap.size]? = some (.cells #[.int .i64 (xa + a.nodes), .int .i64 (xb + a.nodes), .int .i64 xl, .bool xo] 67 (0, 0))) := heap_setCell_same _ wr.heap.size 1 _ 67 _ (heap_setCell_same w5 wr.heap.size 0 _ 67 _ HH5.out)
              have HF3 : Hid (Below wr.heap.size w5 ((w5.setCell ⟨wr.heap.size, 0, none⟩ (.int .i64 (xa + a.nodes))).setCell ⟨wr.heap.size, 1, none⟩ (.int .i64 (xb + a.nodes)))) := ((Below.refl _ _).setCell (p := ⟨wr.heap.size, 0, none⟩) (Nat.le_refl _) _).setCell (p := ⟨wr.heap.size, 1, none⟩) (Nat.le_refl _) _
              go_cut [] (fun wx => Hid (BelJ w1 w.heap.size #[.int .i64 la, .int .i64 lb, .int .i64 lim, .bool one] wx) ∧ Hid (wx.heap[wr.heap.size]? = some (.cells #[.int .i64 (xa + a.nodes), .int .i64 (xb + a.nodes), .int .i64 xl, .bool xo] 67 (0, 0))) ∧ Hid (Below wr.heap.size w5 wx))
              case first =>
                --REGION
                go_region_with (fail)
                all_goals
                  go_wp2_with fail
                  go_meet
                all_goals exact ⟨belj_drew HF1.out, HF2, HF3.out.drew⟩
                --END
              case rest =>
                obtain ⟨HC1, HC2, HC3⟩ := hcut
                rename World => w6
                clear y0 y1 f0 f1 p0 p1 p2 p3 q0 q1 q2 q3 r1 r2 HF1 HF2 HF3 hlr hne
                have HJ6 := Lib.hid (HJ.out.next (HB5w.out.trans HC3.out))
                have hh6 := HC2.out
                have y0 := cell_of_row w6 _ 0 _ _ _ hh6
                have y1 := cell_of_row w6 _ 1 _ _ _ hh6
                have y2 := cell_of_row w6 _ 2 _ _ _ hh6
                have y3 := cell_of_row w6 _ 3 _ _ _ hh6
                have hj6 := HJ6.out.box
                have z1 := cell_of_row w6 _ 1 _ _ _ hj6
                simp only [List.getElem?_toArray, List.getElem?_cons_succ, List.getElem?_cons_zero] at y0 y1 y2 y3 z1
                clear hh6 hj6
                have hbz := HC1.out.sz
                have HA : Hid (ORow (w6.alloc (.cells #[.int .i64 (xa + a.nodes), .int .i64 (xb + a.nodes), .int .i64 xl, .bool xo] 67)) (w.heap.size + 4) 67 4 E1 e1 Lk.length (lineCell Lk)) := HJ6.out.l.next ((Below.refl _ _).alloc (Nat.le_refl _) _)
                have HJA := Lib.hid (HJ6.out.next ((Below.refl _ _).alloc (Nat.le_refl _) (.cells #[.int .i64 (xa + a.nodes), .int .i64 (xb + a.nodes), .int .i64 xl, .bool xo] 67)))
                have HBA := Lib.hid (HC1.out.next ((Below.refl _ _).alloc (Nat.le_refl _) (.cells #[.int .i64 (xa + a.nodes), .int .i64 (xb + a.nodes), .int .i64 xl, .bool xo] 67)))
                have hbx := HBX.out
                go_wp2_with (first
                  | (at_builtin; refine app_line _ rfl _ _ rfl (w.heap.size + 4) E1 e1 Lk ⟨xa + a.nodes, xb + a.nodes, xl, xo⟩ rfl HA.out w6.heap.size rfl (heap_alloc_new w6 _) HLN.out (by simp; omega) ?_; intro E' e' w7 hO7 hG7; have HO7 := Lib.hid hO7; have HG7 := Lib.hid hG7; have hx7 := HG7.out.block HJA.out.box (by decide); have zz := cell_of_row w7 _ 1 _ _ _ hx7; have zf := row_frozen hx7 1; simp only [List.getElem?_toArray, List.getElem?_cons_succ, List.getElem?_cons_zero] at zz; clear hx7 hO7 hG7)
                  | fail)
                have HJ8 := Lib.hid (JS.line HJA.out HG7.out HO7.out)
                have HB8 := Lib.hid ((HBA.out.grows HG7.out (Nat.le_refl _)).set 1 hbx (.slice E' (Lk.length + 1) e'))
                clear zz zf
                go_roundw
                case rel => exact ⟨k + 1, E', e', HLT.out, by go_num, by rw [HST.out]; exact HJ8.out, HB8.out⟩
                case measure => simp [intOf]; have := HLT.out; omega
            · obtain rfl : k = b.lines.length := by omega
              rw [List.take_length] at HJ
              clear hlt hk hnl hna
              obtain ⟨Lk, hLk⟩ : ∃ Lk, a.lines ++ b.lines.map (shL a.nodes) = Lk := ⟨_, rfl⟩
              have HLK := Lib.hid hLk
              have HLN : Hid (Lk.length + 1 ≤ 1000) := by
                show _ ≤ _
                rw [← hLk]
                have := HGA.out.nl; have := HGB.out.nl
                simp only [List.length_append, List.length_map]
                omega
              rw [hLk] at HJ
              clear hLk
              go_upto_region 16 with fail
              have hlb := HB.out.hl
              have y0 := cell_of_row wr _ 0 _ _ _ hlb
              have y1 := cell_of_row wr _ 1 _ _ _ hlb
              have f0 := row_frozen hlb 0
              have f1 := row_frozen hlb 1
              simp only [List.getElem?_toArray, List.getElem?_cons_succ, List.getElem?_cons_zero] at y0 y1
              clear hlb
              have r1 : IntKind.i64.wrap (tt + a.nodes) = tt + a.nodes := IntWalk.i64_in _ (by omega)
              have hne : ¬ w.heap.size = w.heap.size + 2 := by omega
              have HF1 : Hid (BelJ w1 w.heap.size #[.int .i64 ff, .int .i64 (tt + a.nodes), .int .i64 lim, .bool one] ((wr.setCell ⟨w.heap.size + 2, 0, none⟩ (.int .i64 ff)).setCell ⟨w.heap.size + 2, 1, none⟩ (.int .i64 (tt + a.nodes)))) := HB.out.line _ _
              have HF2 := Lib.hid (HJ.out.high (W' := ((wr.setCell ⟨w.heap.size + 2, 0, none⟩ (.int .i64 ff)).setCell ⟨w.heap.size + 2, 1, none⟩ (.int .i64 (tt + a.nodes)))) HBX.out (set_high (by omega) _ _))
              go_cut [] (fun wx => Hid (BelJ w1 w.heap.size #[.int .i64 ff, .int .i64 (tt + a.nodes), .int .i64 lim, .bool one] wx) ∧ Hid (JS wx (w.heap.size + 4) bx (a.nodes + b.nodes) E1 E2 E3 e1 e2 e3 ⟨a.nodes, Lk, a.srcs, a.users⟩))
              case first =>
                --REGION2
                go_region_with (fail)
                all_goals
                  go_wp2_with fail
                  go_meet
                all_goals (first | exact ⟨belj_drew HF1.out, HF2.out.next (Below.refl _ _).drew⟩ | exact ⟨belj_drew HF1.out, HF2⟩ | exact ⟨HF1, HF2⟩)
                --END2
              case rest =>
                obtain ⟨HC1, HJ6⟩ := hcut
                rename World => w6
                clear y0 y1 f0 f1 p0 p1 p2 p3 q0 q1 q2 q3 r1 HF1 HF2 hne HJ HB
                obtain ⟨_, ⟨p0, p1, p2, p3⟩, q0, q1, q2, q3⟩ := HX.out w6 HC1.out.bel
                have hh6 := HC1.out.hl
                have y0 := cell_of_row w6 _ 0 _ _ _ hh6
                have y1 := cell_of_row w6 _ 1 _ _ _ hh6
                have y2 := cell_of_row w6 _ 2 _ _ _ hh6
                have y3 := cell_of_row w6 _ 3 _ _ _ hh6
                have hj6 := HJ6.out.box
                have z1 := cell_of_row w6 _ 1 _ _ _ hj6
                simp only [List.getElem?_toArray, List.getElem?_cons_succ, List.getElem?_cons_zero] at y0 y1 y2 y3 z1
                clear hh6 hj6
                have hbz := HC1.out.sz
                have HA : Hid (ORow (w6.alloc (.cells #[.int .i64 ff, .int .i64 (tt + a.nodes), .int .i64 lim, .bool one] 67)) (w.heap.size + 4) 67 4 E1 e1 Lk.length (lineCell Lk)) := HJ6.out.l.next ((Below.refl _ _).alloc (Nat.le_refl _) _)
                have HJA := Lib.hid (HJ6.out.next ((Below.refl _ _).alloc (Nat.le_refl _) (.cells #[.int .i64 ff, .int .i64 (tt + a.nodes), .int .i64 lim, .bool one] 67)))
                have HBA := Lib.hid (HC1.out.next ((Below.refl _ _).alloc (Nat.le_refl _) (.cells #[.int .i64 ff, .int .i64 (tt + a.nodes), .int .i64 lim, .bool one] 67)))
                have hbx := HBX.out
                go_upto_region 18 with (first
                  | (at_builtin; refine app_line _ rfl _ _ rfl (w.heap.size + 4) E1 e1 Lk ⟨ff, tt + a.nodes, lim, one⟩ rfl HA.out w6.heap.size rfl (heap_alloc_new w6 _) HLN.out (by simp; omega) ?_; intro E' e' w7 hO7 hG7; have HO7 := Lib.hid hO7; have HG7 := Lib.hid hG7; have hx7 := HG7.out.block HJA.out.box (by decide); have zz := cell_of_row w7 _ 1 _ _ _ hx7; have zf := row_frozen hx7 1; simp only [List.getElem?_toArray, List.getElem?_cons_succ, List.getElem?_cons_zero] at zz; clear hx7 hO7 hG7)
                  | fail)
                have HJ8 := Lib.hid (JS.line HJA.out HG7.out HO7.out)
                have HB8 := Lib.hid ((HBA.out.grows HG7.out (Nat.le_refl _)).set 1 hbx (.slice E' (Lk.length + 1) e'))
                clear zz zf
                obtain ⟨w8, hw8⟩ : ∃ w8, w7.setCell ⟨bx, 1, none⟩ (.slice E' (Lk.length + 1) e') = w8 := ⟨_, rfl⟩
                rw [hw8] at HJ8 HB8
                (try rw [hw8])
                clear hw8 y0 y1 y2 y3 z1 p0 p1 p2 p3 q0 q1 q2 q3 HJ6 HC1 HA HJA HBA HO7 HG7
                obtain ⟨Lf, hLf⟩ : ∃ Lf, Lk ++ [⟨ff, tt + a.nodes, lim, one⟩] = Lf := ⟨_, rfl⟩
                have HJ : Hid (JS w8 (w.heap.size + 4) bx (a.nodes + b.nodes) E' E2 E3 e' e2 e3 ⟨a.nodes, Lf, a.srcs, a.users⟩) := by rw [← hLf]; exact HJ8.out
                have HBW := HB8
                have HLF : Hid (a.lines ++ b.lines.map (shL a.nodes) ++ [⟨ff, tt + a.nodes, lim, one⟩] = Lf) := by show _ = _; rw [HLK.out, hLf]
                clear HJ8 HB8 hLf HLK HLN
                rename Option Addr => E1
                rename Nat => e1
                obtain ⟨_, ⟨p0, p1, p2, p3⟩, q0, q1, q2, q3⟩ := HX.out w8 HBW.out.bel
                go_wp2_with fail
                clear p0 p1 p2 p3 q0 q1 q2 q3
                go_loopw [106] (fun vk wr => ∃ (k : Nat) (E2 : Option Addr) (e2 : Nat), k ≤ b.srcs.length ∧ vk = .int .i64 k ∧ Hid (JS wr (w.heap.size + 4) bx (a.nodes + b.nodes) E1 E2 E3 e1 e2 e3 ⟨a.nodes, Lf, a.srcs ++ (b.srcs.take k).map (shS a.nodes), a.users⟩) ∧ Hid (BelJ w1 w.heap.size #[.int .i64 ff, .int .i64 (tt + a.nodes), .int .i64 lim, .bool one] wr)) (fun vk _ => b.srcs.length - (intOf vk).toNat)
                case atStart => exact ⟨0, E2, e2, Nat.zero_le _, rfl, by rw [List.take_zero, List.map_nil, List.append_nil]; exact HJ.out, HBW.out⟩
                case round =>
                  clear HJ HBW
                  obtain ⟨k, E2, e2, hk, rfl, HJ, HB⟩ := hrel
                  rename World => wr
                  obtain ⟨_, ⟨p0, p1, p2, p3⟩, q0, q1, q2, q3⟩ := HX.out wr HB.out.bel
                  have hnl : b.srcs.length ≤ 40 := by have := HGB.out.nl; have := HGB.out.ns; have := HGB.out.nu; omega
                  have hna : a.srcs.length ≤ 40 := by have := HGA.out.nl; have := HGA.out.ns; have := HGA.out.nu; omega
                  by_cases hlt : k < b.srcs.length
                  · have HLT := Lib.hid hlt
                    obtain ⟨⟨xn, xp⟩, fb, off, hx, hB, hfb, x0, x1⟩ := (HG.out wr (HX.out wr HB.out.bel).1).2.ss.at_ hlt
                    dsimp only at x0 x1
                    have hxb := HGB.out.src _ (show (⟨xn, xp⟩ : MSrc) ∈ b.srcs by rw [← hx]; exact getD_mem_of hlt dSrc)
                    dsimp only at hxb
                    obtain ⟨⟨v0, v1⟩, _⟩ := hxb
                    subst hB
                    have hfb2 := HGB.out.few
                    have v1' : xn < 20 := by omega
                    obtain ⟨Lk, hLk⟩ : ∃ Lk, a.srcs ++ (b.srcs.take k).map (shS a.nodes) = Lk := ⟨_, rfl⟩
                    have HST : Hid (a.srcs ++ (b.srcs.take (k + 1)).map (shS a.nodes) = Lk ++ [⟨xn + a.nodes, xp⟩]) := by
                      show _ = _
                      rw [take_snocS hlt, ← List.append_assoc, hLk, hx]
                      rfl
                    have HLN : Hid (Lk.length + 1 ≤ 1000) := by
                      show _ ≤ _
                      rw [← hLk]
                      simp only [List.length_append, List.length_map, List.length_take]
                      omega
                    rw [hLk] at HJ
                    clear hLk hx hfb2 hna
                    have hl : w.heap.size < wr.heap.size := by have := HB.out.sz; omega
                    have hm : w.heap.size + 1 < wr.heap.size := by have := HB.out.sz; omega
                    have r1 : IntKind.i64.wrap (xn + a.nodes) = xn + a.nodes := IntWalk.i64_in _ (by omega)
                    obtain ⟨w5, hw5⟩ : ∃ w5, wr.alloc (.cells #[.int .i64 (xn + a.nodes), .int .i64 xp] 57) = w5 := ⟨_, rfl⟩
                    have hb5 : Below wr.heap.size wr w5 := by rw [← hw5]; exact (Below.refl _ _).alloc (Nat.le_refl _) _
                    have hh5 : w5.heap[wr.heap.size]? = some (.cells #[.int .i64 (xn + a.nodes), .int .i64 xp] 57 (0, 0)) := by rw [← hw5]; exact heap_alloc_new wr _
                    have HB5 := Lib.hid (HB.out.next hb5)
                    have HJ5 := Lib.hid (HJ.out.next hb5)
                    have y0 := cell_of_row w5 _ 0 _ _ _ hh5
                    have y1 := cell_of_row w5 _ 1 _ _ _ hh5
                    have hj5 := HJ5.out.box
                    have z1 := cell_of_row w5 _ 2 _ _ _ hj5
                    simp only [List.getElem?_toArray, List.getElem?_cons_succ, List.getElem?_cons_zero] at y0 y1 z1
                    clear hh5 hb5 hj5
                    have hbz := HB5.out.sz
                    have HA : Hid (ORow (w5.alloc (.cells #[.int .i64 (xn + a.nodes), .int .i64 xp] 57)) (w.heap.size + 4) 57 2 E2 e2 Lk.length (srcCell Lk)) := HJ5.out.s.next ((Below.refl _ _).alloc (Nat.le_refl _) _)
                    have HJA := Lib.hid (HJ5.out.next ((Below.refl _ _).alloc (Nat.le_refl _) (.cells #[.int .i64 (xn + a.nodes), .int .i64 xp] 57)))
                    have HBA := Lib.hid (HB5.out.next ((Below.refl _ _).alloc (Nat.le_refl _) (.cells #[.int .i64 (xn + a.nodes), .int .i64 xp] 57)))
                    have hbx := HBX.out
                    go_wp2_with (first
                      | (at_builtin; refine app_src _ rfl _ _ rfl (w.heap.size + 4) E2 e2 Lk ⟨xn + a.nodes, xp⟩ rfl HA.out w5.heap.size rfl (heap_alloc_new w5 _) HLN.out (by simp; omega) ?_; intro E' e' w7 hO7 hG7; have HO7 := Lib.hid hO7; have HG7 := Lib.hid hG7; have hx7 := HG7.out.block HJA.out.box (by decide); have zz := cell_of_row w7 _ 2 _ _ _ hx7; have zf := row_frozen hx7 2; simp only [List.getElem?_toArray, List.getElem?_cons_succ, List.getElem?_cons_zero] at zz; clear hx7 hO7 hG7)
                      | fail)
                    have HJ8 := Lib.hid (JS.src HJA.out HG7.out HO7.out)
                    have HB8 := Lib.hid ((HBA.out.grows HG7.out (Nat.le_refl _)).set 2 hbx (.slice E' (Lk.length + 1) e'))
                    clear zz zf
                    go_roundw
                    case rel => exact ⟨k + 1, E', e', HLT.out, by go_num, by rw [HST.out]; exact HJ8.out, HB8.out⟩
                    case measure => simp [intOf]; have := HLT.out; omega
                  · obtain rfl : k = b.srcs.length := by omega
                    rw [List.take_length] at HJ
                    clear hlt hk hnl hna
                    obtain ⟨Sf, hSf⟩ : ∃ Sf, a.srcs ++ b.srcs.map (shS a.nodes) = Sf := ⟨_, rfl⟩
                    have HSF := Lib.hid hSf
                    rw [hSf] at HJ
                    clear hSf
                    have HBW := HB
                    clear HB
                    go_wp2_with fail
                    clear p0 p1 p2 p3 q0 q1 q2 q3
                    go_loopw [126] (fun vk wr => ∃ (k : Nat) (E3 : Option Addr) (e3 : Nat), k ≤ b.users.length ∧ vk = .int .i64 k ∧ Hid (JS wr (w.heap.size + 4) bx (a.nodes + b.nodes) E1 E2 E3 e1 e2 e3 ⟨a.nodes, Lf, Sf, a.users ++ (b.users.take k).map (shU a.nodes)⟩) ∧ Hid (BelJ w1 w.heap.size #[.int .i64 ff, .int .i64 (tt + a.nodes), .int .i64 lim, .bool one] wr)) (fun vk _ => b.users.length - (intOf vk).toNat)
                    case atStart => exact ⟨0, E3, e3, Nat.zero_le _, rfl, by rw [List.take_zero, List.map_nil, List.append_nil]; exact HJ.out, HBW.out⟩
                    case round =>
                      clear HJ HBW
                      obtain ⟨k, E3, e3, hk, rfl, HJ, HB⟩ := hrel
                      rename World => wr
                      obtain ⟨_, ⟨p0, p1, p2, p3⟩, q0, q1, q2, q3⟩ := HX.out wr HB.out.bel
                      have hnl : b.users.length ≤ 40 := by have := HGB.out.nl; have := HGB.out.ns; have := HGB.out.nu; omega
                      have hna : a.users.length ≤ 40 := by have := HGA.out.nl; have := HGA.out.ns; have := HGA.out.nu; omega
                      by_cases hlt : k < b.users.length
                      · have HLT := Lib.hid hlt
                        obtain ⟨⟨xn, xp, xv⟩, fb, off, hx, hB, hfb, x0, x1, x2⟩ := (HG.out wr (HX.out wr HB.out.bel).1).2.us.at_ hlt
                        dsimp only at x0 x1 x2
                        have hxb := HGB.out.user _ (show (⟨xn, xp, xv⟩ : MUser) ∈ b.users by rw [← hx]; exact getD_mem_of hlt dUser)
                        dsimp only at hxb
                        obtain ⟨⟨v0, v1⟩, _⟩ := hxb
                        subst hB
                        have hfb2 := HGB.out.few
                        have v1' : xn < 20 := by omega
                        obtain ⟨Lk, hLk⟩ : ∃ Lk, a.users ++ (b.users.take k).map (shU a.nodes) = Lk := ⟨_, rfl⟩
                        have HST : Hid (a.users ++ (b.users.take (k + 1)).map (shU a.nodes) = Lk ++ [⟨xn + a.nodes, xp, xv⟩]) := by
                          show _ = _
                          rw [take_snocU hlt, ← List.append_assoc, hLk, hx]
                          rfl
                        have HLN : Hid (Lk.length + 1 ≤ 1000) := by
                          show _ ≤ _
                          rw [← hLk]
                          simp only [List.length_append, List.length_map, List.length_take]
                          omega
                        rw [hLk] at HJ
                        clear hLk hx hfb2 hna
                        have hl : w.heap.size < wr.heap.size := by have := HB.out.sz; omega
                        have hm : w.heap.size + 1 < wr.heap.size := by have := HB.out.sz; omega
                        have r1 : IntKind.i64.wrap (xn + a.nodes) = xn + a.nodes := IntWalk.i64_in _ (by omega)
                        obtain ⟨w5, hw5⟩ : ∃ w5, wr.alloc (.cells #[.int .i64 (xn + a.nodes), .int .i64 xp, .int .i64 xv] 55) = w5 := ⟨_, rfl⟩
                        have hb5 : Below wr.heap.size wr w5 := by rw [← hw5]; exact (Below.refl _ _).alloc (Nat.le_refl _) _
                        have hh5 : w5.heap[wr.heap.size]? = some (.cells #[.int .i64 (xn + a.nodes), .int .i64 xp, .int .i64 xv] 55 (0, 0)) := by rw [← hw5]; exact heap_alloc_new wr _
                        have HB5 := Lib.hid (HB.out.next hb5)
                        have HJ5 := Lib.hid (HJ.out.next hb5)
                        have y0 := cell_of_row w5 _ 0 _ _ _ hh5
                        have y1 := cell_of_row w5 _ 1 _ _ _ hh5
                        have y2 := cell_of_row w5 _ 2 _ _ _ hh5
                        have hj5 := HJ5.out.box
                        have z1 := cell_of_row w5 _ 3 _ _ _ hj5
                        simp only [List.getElem?_toArray, List.getElem?_cons_succ, List.getElem?_cons_zero] at y0 y1 y2 z1
                        clear hh5 hb5 hj5
                        have hbz := HB5.out.sz
                        have HA : Hid (ORow (w5.alloc (.cells #[.int .i64 (xn + a.nodes), .int .i64 xp, .int .i64 xv] 55)) (w.heap.size + 4) 55 3 E3 e3 Lk.length (userCell Lk)) := HJ5.out.u.next ((Below.refl _ _).alloc (Nat.le_refl _) _)
                        have HJA := Lib.hid (HJ5.out.next ((Below.refl _ _).alloc (Nat.le_refl _) (.cells #[.int .i64 (xn + a.nodes), .int .i64 xp, .int .i64 xv] 55)))
                        have HBA := Lib.hid (HB5.out.next ((Below.refl _ _).alloc (Nat.le_refl _) (.cells #[.int .i64 (xn + a.nodes), .int .i64 xp, .int .i64 xv] 55)))
                        have hbx := HBX.out
                        go_wp2_with (first
                          | (at_builtin; refine app_user _ rfl _ _ rfl (w.heap.size + 4) E3 e3 Lk ⟨xn + a.nodes, xp, xv⟩ rfl HA.out w5.heap.size rfl (heap_alloc_new w5 _) HLN.out (by simp; omega) ?_; intro E' e' w7 hO7 hG7; have HO7 := Lib.hid hO7; have HG7 := Lib.hid hG7; have hx7 := HG7.out.block HJA.out.box (by decide); have zz := cell_of_row w7 _ 3 _ _ _ hx7; have zf := row_frozen hx7 3; simp only [List.getElem?_toArray, List.getElem?_cons_succ, List.getElem?_cons_zero] at zz; clear hx7 hO7 hG7)
                          | fail)
                        have HJ8 := Lib.hid (JS.user HJA.out HG7.out HO7.out)
                        have HB8 := Lib.hid ((HBA.out.grows HG7.out (Nat.le_refl _)).set 3 hbx (.slice E' (Lk.length + 1) e'))
                        clear zz zf
                        go_roundw
                        case rel => exact ⟨k + 1, E', e', HLT.out, by go_num, by rw [HST.out]; exact HJ8.out, HB8.out⟩
                        case measure => simp [intOf]; have := HLT.out; omega
                      · obtain rfl : k = b.users.length := by omega
                        rw [List.take_length] at HJ
                        clear hlt hk hnl hna
                        obtain ⟨Uf, hUf⟩ : ∃ Uf, a.users ++ b.users.map (shU a.nodes) = Uf := ⟨_, rfl⟩
                        have HUF := Lib.hid hUf
                        have HLL : Hid (Lf.length ≤ maxLen ∧ Sf.length ≤ maxLen ∧ Uf.length ≤ maxLen) := by
                          have := HGA.out.nl; have := HGB.out.nl; have := HGA.out.ns; have := HGB.out.ns; have := HGA.out.nu; have := HGB.out.nu
                          refine ⟨?_, ?_, ?_⟩
                          · rw [← HLF.out]; unfold maxLen; simp only [List.length_append, List.length_map, List.length_cons, List.length_nil]; omega
                          · rw [← HSF.out]; unfold maxLen; simp only [List.length_append, List.length_map]; omega
                          · rw [← HUF.out]; unfold maxLen; simp only [List.length_append, List.length_map]; omega
                        rw [hUf] at HJ
                        clear hUf
                        have HGJ : Hid (joinG a b ff tt lim one = ⟨a.nodes + b.nodes, Lf, Sf, Uf⟩) := by show _ = _; unfold joinG; rw [HLF.out, HSF.out, HUF.out]
                        obtain ⟨Eg, hEg⟩ : ∃ Eg, checkG (⟨a.nodes + b.nodes, Lf, Sf, Uf⟩ : MGrid) = Eg := ⟨_, rfl⟩
                        have HOW : Hid (OwnG wr (w.heap.size + 4) ⟨a.nodes + b.nodes, Lf, Sf, Uf⟩ E1 E2 E3) := ⟨HJ.out.l.sl, HJ.out.s.sl, HJ.out.u.sl⟩
                        have HCG : Hid (Calls Try.prog 35 #[.agg #[.int .i64 (a.nodes + b.nodes), .slice E1 Lf.length e1, .slice E2 Sf.length e2, .slice E3 Uf.length e3]] wr fun e w' => e = .returned (.int .i64 Eg) ∧ Below wr.heap.size wr w') := check_any ⟨a.nodes + b.nodes, Lf, Sf, Uf⟩ E1 E2 E3 e1 e2 e3 wr (HOW.out.grid HLL.out.1 HLL.out.2.1 HLL.out.2.2) hEg
                        have HEG : Hid (joinE a b ff tt lim one = Eg) := by
                          show _ = _
                          unfold joinE
                          rw [HEA.out, if_neg (by simp), HEB.out, if_neg (by simp), inB_iff.2 ⟨hf0, hf1⟩, inB_iff.2 ⟨ht0, ht1⟩, if_neg (by simp), HGJ.out, hEg]
                        have hj9 := HJ.out.box
                        have z0 := cell_of_row wr _ 0 _ _ _ hj9
                        have z1 := cell_of_row wr _ 1 _ _ _ hj9
                        have z2 := cell_of_row wr _ 2 _ _ _ hj9
                        have z3 := cell_of_row wr _ 3 _ _ _ hj9
                        simp only [List.getElem?_toArray, List.getElem?_cons_succ, List.getElem?_cons_zero] at z0 z1 z2 z3
                        clear hj9 hEg
                        by_cases hze : Eg = 0
                        · subst hze
                          go_wp2_with (first
                            | (go_at_call 35; refine HCG.out.mono ?_; rintro e' w9 ⟨rfl, hb9⟩; have HB9 := Lib.hid (HB.out.next hb9); have HJ9 := Lib.hid (HJ.out.next hb9); have HO9 := Lib.hid (HOW.out.keep hb9); clear hb9 z0 z1 z2 z3 p0 p1 p2 p3 q0 q1 q2 q3; have hz9 := HJ9.out.box; have z0 := cell_of_row w9 _ 0 _ _ _ hz9; have z1 := cell_of_row w9 _ 1 _ _ _ hz9; have z2 := cell_of_row w9 _ 2 _ _ _ hz9; have z3 := cell_of_row w9 _ 3 _ _ _ hz9; simp only [List.getElem?_toArray, List.getElem?_cons_succ, List.getElem?_cons_zero] at z0 z1 z2 z3; clear hz9; have hr9 := HB9.out.hr; have y0 := cell_of_row w9 _ 0 _ _ _ hr9; have y1 := cell_of_row w9 _ 1 _ _ _ hr9; have y2 := cell_of_row w9 _ 2 _ _ _ hr9; have y3 := cell_of_row w9 _ 3 _ _ _ hr9; have f0 := row_frozen hr9 0; have f1 := row_frozen hr9 1; have f2 := row_frozen hr9 2; have f3 := row_frozen hr9 3; simp only [List.getElem?_toArray, List.getElem?_cons_succ, List.getElem?_cons_zero] at y0 y1 y2 y3; clear hr9)
                            | fail)
                          refine bodyPost_ret (results_gridE rfl _ _ (w.heap.size + 3) _ rfl _ rfl (set4_heap HB9.out.hr _ _ _ _) rfl) rfl ?_
                          exact ⟨set4_below (HX.out _ HB9.out.bel).1 (by omega) _ _ _ _, .inr ⟨HEG.out, E1, E2, E3, e1, e2, e3, by rw [HGJ.out]; rfl, by rw [HGJ.out]; exact (set4_own HO9.out (show w.heap.size + 3 < w.heap.size + 4 by omega) _ _ _ _).base (by omega)⟩⟩
                        · have HZ : Hid (Eg ≠ 0) := hze
                          have hz' : (Eg != 0) = true := by simpa using hze
                          clear hze
                          go_wp2_with (first
                            | (go_at_call 35; refine HCG.out.mono ?_; rintro e' w9 ⟨rfl, hb9⟩; have HB9 := Lib.hid (HB.out.next hb9); clear hb9 z0 z1 z2 z3 p0 p1 p2 p3 q0 q1 q2 q3; have hr9 := HB9.out.hr; have y0 := cell_of_row w9 _ 0 _ _ _ hr9; have y1 := cell_of_row w9 _ 1 _ _ _ hr9; have y2 := cell_of_row w9 _ 2 _ _ _ hr9; have y3 := cell_of_row w9 _ 3 _ _ _ hr9; have f0 := row_frozen hr9 0; have f1 := row_frozen hr9 1; have f2 := row_frozen hr9 2; have f3 := row_frozen hr9 3; simp only [List.getElem?_toArray, List.getElem?_cons_succ, List.getElem?_cons_zero] at y0 y1 y2 y3; clear hr9)
                            | fail)
                          refine bodyPost_ret (results_gridE rfl _ _ (w.heap.size + 3) _ rfl _ rfl (set4_heap HB9.out.hr _ _ _ _) rfl) rfl ?_
                          exact ⟨set4_below (HX.out _ HB9.out.bel).1 (by omega) _ _ _ _, .inl ⟨by rw [HEG.out]; exact HZ.out, by rw [HEG.out]; rfl⟩⟩
      · have hE : joinE a b ff tt lim one = 1 := by unfold joinE; rw [hEa, if_neg (by simp), hEb, if_neg (by simp), hi1, hi2, if_pos (by simpa using hin)]
        have HE := Lib.hid hE
        clear hE hEa hEb hi1 hi2 hga hgb hna hnb hfa hfb
        cases i1
        · go_enter Try.func44, Try.ntmps44
          go_wp2_with (first
            | (go_at_call 35; with_reducible refine (HCA.out _ (HX.out _ HBJ.out.bel).1).mono ?_; rintro e w2 ⟨rfl, hb2⟩; have HB2 := Lib.hid (HBJ.out.next hb2); clear hb2 p0 p1 p2 p3 q0 q1 q2 q3; obtain ⟨_, ⟨p0, p1, p2, p3⟩, q0, q1, q2, q3⟩ := HX.out w2 HB2.out.bel)
            | (go_at_call 35; with_reducible refine (HCB.out _ (HX.out _ HB2.out.bel).1).mono ?_; rintro e w3 ⟨rfl, hb3⟩; have HB3 := Lib.hid (HB2.out.next hb3); clear hb3 p0 p1 p2 p3 q0 q1 q2 q3; obtain ⟨_, ⟨p0, p1, p2, p3⟩, q0, q1, q2, q3⟩ := HX.out w3 HB3.out.bel; have hr3 := HB3.out.hr; have y0 := cell_of_row w3 _ 0 _ _ _ hr3; have y1 := cell_of_row w3 _ 1 _ _ _ hr3; have y2 := cell_of_row w3 _ 2 _ _ _ hr3; have y3 := cell_of_row w3 _ 3 _ _ _ hr3; have f0 := row_frozen hr3 0; have f1 := row_frozen hr3 1; have f2 := row_frozen hr3 2; have f3 := row_frozen hr3 3; simp only [List.getElem?_toArray, List.getElem?_cons_succ, List.getElem?_cons_zero] at y0 y1 y2 y3; clear hr3)
            | (go_at_call 69; with_reducible refine (HW1.out _).mono ?_; rintro e w4 ⟨rfl, rfl⟩)
            | fail)
          refine bodyPost_ret (results_gridE rfl _ _ (w.heap.size + 3) _ rfl _ rfl (set4_heap HB3.out.hr _ _ _ _) rfl) rfl ?_
          exact ⟨set4_below (HX.out _ HB3.out.bel).1 (by omega) _ _ _ _, .inl ⟨by rw [HE.out]; decide, by rw [HE.out]; rfl⟩⟩
        · cases i2
          · go_enter Try.func44, Try.ntmps44
            go_wp2_with (first
              | (go_at_call 35; with_reducible refine (HCA.out _ (HX.out _ HBJ.out.bel).1).mono ?_; rintro e w2 ⟨rfl, hb2⟩; have HB2 := Lib.hid (HBJ.out.next hb2); clear hb2 p0 p1 p2 p3 q0 q1 q2 q3; obtain ⟨_, ⟨p0, p1, p2, p3⟩, q0, q1, q2, q3⟩ := HX.out w2 HB2.out.bel)
              | (go_at_call 35; with_reducible refine (HCB.out _ (HX.out _ HB2.out.bel).1).mono ?_; rintro e w3 ⟨rfl, hb3⟩; have HB3 := Lib.hid (HB2.out.next hb3); clear hb3 p0 p1 p2 p3 q0 q1 q2 q3; obtain ⟨_, ⟨p0, p1, p2, p3⟩, q0, q1, q2, q3⟩ := HX.out w3 HB3.out.bel; have hr3 := HB3.out.hr; have y0 := cell_of_row w3 _ 0 _ _ _ hr3; have y1 := cell_of_row w3 _ 1 _ _ _ hr3; have y2 := cell_of_row w3 _ 2 _ _ _ hr3; have y3 := cell_of_row w3 _ 3 _ _ _ hr3; have f0 := row_frozen hr3 0; have f1 := row_frozen hr3 1; have f2 := row_frozen hr3 2; have f3 := row_frozen hr3 3; simp only [List.getElem?_toArray, List.getElem?_cons_succ, List.getElem?_cons_zero] at y0 y1 y2 y3; clear hr3)
              | (go_at_call 69; with_reducible refine (HW1.out _).mono ?_; rintro e w4 ⟨rfl, rfl⟩)
              | (go_at_call 69; with_reducible refine (HW2.out _).mono ?_; rintro e w4 ⟨rfl, rfl⟩)
              | fail)
            refine bodyPost_ret (results_gridE rfl _ _ (w.heap.size + 3) _ rfl _ rfl (set4_heap HB3.out.hr _ _ _ _) rfl) rfl ?_
            exact ⟨set4_below (HX.out _ HB3.out.bel).1 (by omega) _ _ _ _, .inl ⟨by rw [HE.out]; decide, by rw [HE.out]; rfl⟩⟩
          · exact absurd rfl hin
    · have hE : joinE a b ff tt lim one = Eb := by unfold joinE; rw [hEa, if_neg (by simp), hEb, if_pos hzb]
      have HE := Lib.hid hE
      have HZ : Hid (Eb ≠ 0) := hzb
      have hz' : (Eb != 0) = true := by simpa using hzb
      clear hE hEa hEb hzb
      go_enter Try.func44, Try.ntmps44
      go_wp2_with (first
        | (go_at_call 35; with_reducible refine (HCA.out _ (HX.out _ HBJ.out.bel).1).mono ?_; rintro e w2 ⟨rfl, hb2⟩; have HB2 := Lib.hid (HBJ.out.next hb2); clear hb2 p0 p1 p2 p3 q0 q1 q2 q3; obtain ⟨_, ⟨p0, p1, p2, p3⟩, q0, q1, q2, q3⟩ := HX.out w2 HB2.out.bel)
        | (go_at_call 35; with_reducible refine (HCB.out _ (HX.out _ HB2.out.bel).1).mono ?_; rintro e w3 ⟨rfl, hb3⟩; have HB3 := Lib.hid (HB2.out.next hb3); clear hb3 p0 p1 p2 p3 q0 q1 q2 q3; have hr3 := HB3.out.hr; have y0 := cell_of_row w3 _ 0 _ _ _ hr3; have y1 := cell_of_row w3 _ 1 _ _ _ hr3; have y2 := cell_of_row w3 _ 2 _ _ _ hr3; have y3 := cell_of_row w3 _ 3 _ _ _ hr3; have f0 := row_frozen hr3 0; have f1 := row_frozen hr3 1; have f2 := row_frozen hr3 2; have f3 := row_frozen hr3 3; simp only [List.getElem?_toArray, List.getElem?_cons_succ, List.getElem?_cons_zero] at y0 y1 y2 y3; clear hr3)
        | fail)
      refine bodyPost_ret (results_gridE rfl _ _ (w.heap.size + 3) _ rfl _ rfl (set4_heap HB3.out.hr _ _ _ _) rfl) rfl ?_
      exact ⟨set4_below (HX.out _ HB3.out.bel).1 (by omega) _ _ _ _, .inl ⟨by rw [HE.out]; exact HZ.out, by rw [HE.out]; rfl⟩⟩
  · have hE : joinE a b ff tt lim one = Ea := by unfold joinE; rw [hEa, if_pos hza]
    have HE := Lib.hid hE
    have HZ : Hid (Ea ≠ 0) := hza
    have hz' : (Ea != 0) = true := by simpa using hza
    clear hE hEa hEb hza HCB
    go_enter Try.func44, Try.ntmps44
    go_wp2_with (first
      | (go_at_call 35; refine (HCA.out _ (HX.out _ HBJ.out.bel).1).mono ?_; rintro e w2 ⟨rfl, hb2⟩; have HB2 := Lib.hid (HBJ.out.next hb2); clear hb2 p0 p1 p2 p3 q0 q1 q2 q3; have hr2 := HB2.out.hr; have y0 := cell_of_row w2 _ 0 _ _ _ hr2; have y1 := cell_of_row w2 _ 1 _ _ _ hr2; have y2 := cell_of_row w2 _ 2 _ _ _ hr2; have y3 := cell_of_row w2 _ 3 _ _ _ hr2; have f0 := row_frozen hr2 0; have f1 := row_frozen hr2 1; have f2 := row_frozen hr2 2; have f3 := row_frozen hr2 3; simp only [List.getElem?_toArray, List.getElem?_cons_succ, List.getElem?_cons_zero] at y0 y1 y2 y3; clear hr2)
      | fail)
    refine bodyPost_ret (results_gridE rfl _ _ (w.heap.size + 3) _ rfl _ rfl (set4_heap HB2.out.hr _ _ _ _) rfl) rfl ?_
    exact ⟨set4_below (HX.out _ HB2.out.bel).1 (by omega) _ _ _ _, .inl ⟨by rw [HE.out]; exact HZ.out, by rw [HE.out]; rfl⟩⟩
end Go.Proofs.Ytegclodchhcbaaa
