/- Walk: Join: the reference's. Printed by gen_jf8.py. -/
import Derived.Test.YtegclodchhcbaaaJd
import Derived.Test.YtegclodchhcbaaaJc
import Derived.Test.YtegclodchhcbaaaRck
namespace Go.Proofs.Ytegclodchhcbaaa
open Go.RowKit

set_option maxRecDepth 100000 in
set_option maxHeartbeats 8000000 in
theorem rJoin_any (a b : MGrid) (A1 A2 A3 : Option Addr) (c1 c2 c3 : Nat) (B1 B2 B3 : Option Addr) (d1 d2 d3 : Nat) (ff tt la lb lim : Int) (one : Bool) (w : World) (h : GridA w w.heap.size a A1 A2 A3) (h' : GridA w w.heap.size b B1 B2 B3) :
    Calls Try.prog 45 #[.agg (gridC a A1 A2 A3 c1 c2 c3), .agg (gridC b B1 B2 B3 d1 d2 d3), .int .i64 ff, .int .i64 tt, .agg #[.int .i64 la, .int .i64 lb, .int .i64 lim, .bool one]] w (JoinP a b ff tt lim one w) := by
  obtain ⟨w1, hw1⟩ : ∃ w1, (((w.alloc (.cells #[.int .i64 a.nodes, .slice A1 a.lines.length c1, .slice A2 a.srcs.length c2, .slice A3 a.users.length c3] 26)).alloc (.cells #[.int .i64 b.nodes, .slice B1 b.lines.length d1, .slice B2 b.srcs.length d2, .slice B3 b.users.length d3] 26)).alloc (.cells #[.int .i64 la, .int .i64 lb, .int .i64 lim, .bool one] 67)).alloc (.cells #[.int .i64 0, .slice none 0 0, .slice none 0 0, .slice none 0 0] 26) = w1 := ⟨_, rfl⟩
  obtain ⟨k1, k2, k3, k4, hs1, hb1⟩ := four_made w _ _ _ _ w1 hw1.symm
  have HX : Hid (∀ W, Below (w.heap.size + 2) w1 W → Below w.heap.size w W ∧ (W.cell? ⟨w.heap.size, 0, none⟩ = some (.int .i64 a.nodes) ∧ W.cell? ⟨w.heap.size, 1, none⟩ = some (.slice A1 a.lines.length c1) ∧ W.cell? ⟨w.heap.size, 2, none⟩ = some (.slice A2 a.srcs.length c2) ∧ W.cell? ⟨w.heap.size, 3, none⟩ = some (.slice A3 a.users.length c3)) ∧ W.cell? ⟨w.heap.size + 1, 0, none⟩ = some (.int .i64 b.nodes) ∧ W.cell? ⟨w.heap.size + 1, 1, none⟩ = some (.slice B1 b.lines.length d1) ∧ W.cell? ⟨w.heap.size + 1, 2, none⟩ = some (.slice B2 b.srcs.length d2) ∧ W.cell? ⟨w.heap.size + 1, 3, none⟩ = some (.slice B3 b.users.length d3)) := fun W hW => by
    have h1 := (hW.block w.heap.size (by omega)).trans k1
    have h2 := (hW.block (w.heap.size + 1) (by omega)).trans k2
    exact ⟨hb1.trans (hW.mono (by omega)), ⟨cell_of_row W _ 0 _ _ _ h1, cell_of_row W _ 1 _ _ _ h1, cell_of_row W _ 2 _ _ _ h1, cell_of_row W _ 3 _ _ _ h1⟩, cell_of_row W _ 0 _ _ _ h2, cell_of_row W _ 1 _ _ _ h2, cell_of_row W _ 2 _ _ _ h2, cell_of_row W _ 3 _ _ _ h2⟩
  have HBJ : Hid (BelJ w1 w.heap.size #[.int .i64 la, .int .i64 lb, .int .i64 lim, .bool one] w1) := ⟨Below.refl _ _, k3, k4, by omega⟩
  have HG : Hid (∀ W, Below w.heap.size w W → GridA W W.heap.size a A1 A2 A3 ∧ GridA W W.heap.size b B1 B2 B3) := fun W hW => ⟨(h.keep hW).more hW.size, (h'.keep hW).more hW.size⟩
  have HS1 := Lib.hid hs1
  obtain ⟨Ea, hEa⟩ : ∃ Ea, checkG a = Ea := ⟨_, rfl⟩
  obtain ⟨Eb, hEb⟩ : ∃ Eb, checkG b = Eb := ⟨_, rfl⟩
  have HCA : Hid (∀ W, Below w.heap.size w W → Calls Try.prog 36 #[.agg (gridC a A1 A2 A3 c1 c2 c3)] W fun e w' => e = .returned (.int .i64 Ea) ∧ Below W.heap.size W w') := fun W hW => rcheck_any a A1 A2 A3 c1 c2 c3 W (HG.out W hW).1 hEa
  have HCB : Hid (∀ W, Below w.heap.size w W → Calls Try.prog 36 #[.agg (gridC b B1 B2 B3 d1 d2 d3)] W fun e w' => e = .returned (.int .i64 Eb) ∧ Below W.heap.size W w') := fun W hW => rcheck_any b B1 B2 B3 d1 d2 d3 W (HG.out W hW).2 hEb
  obtain ⟨_, ⟨p0, p1, p2, p3⟩, q0, q1, q2, q3⟩ := HX.out w1 (Below.refl _ _)
  unfold gridC at HCA HCB ⊢
  clear h h' hb1 k1 k2 k3 k4 hs1
  by_cases hza : Ea = 0
  · subst hza
    by_cases hzb : Eb = 0
    · subst hzb
      obtain ⟨na, hga⟩ := checkG_ok hEa
      obtain ⟨nb, hgb⟩ := checkG_ok hEb
      have hna := hga.nodes
      have hnb := hgb.nodes
      have hfa := hga.few
      have hfb := hgb.few
      obtain ⟨i1, hi1⟩ : ∃ i1, inB ff 0 (a.nodes - 1) = i1 := ⟨_, rfl⟩
      obtain ⟨i2, hi2⟩ : ∃ i2, inB tt 0 (b.nodes - 1) = i2 := ⟨_, rfl⟩
      have HW1 : Hid (∀ W, Calls Try.prog 72 #[.agg #[.int .i64 a.nodes, .slice A1 a.lines.length c1, .slice A2 a.srcs.length c2, .slice A3 a.users.length c3], .int .i64 ff] W fun e w' => e = .returned (.bool i1) ∧ Below W.heap.size W w') := fun W => rnode_any a.nodes _ _ _ ff W hi1
      have HW2 : Hid (∀ W, Calls Try.prog 72 #[.agg #[.int .i64 b.nodes, .slice B1 b.lines.length d1, .slice B2 b.srcs.length d2, .slice B3 b.users.length d3], .int .i64 tt] W fun e w' => e = .returned (.bool i2) ∧ Below W.heap.size W w') := fun W => rnode_any b.nodes _ _ _ tt W hi2
      have ra : 1 ≤ a.nodes ∧ a.nodes ≤ 20 := by omega
      have rb' : 1 ≤ b.nodes ∧ b.nodes ≤ 20 := by omega
      obtain ⟨ra1, ra2⟩ := ra
      obtain ⟨rb1, rb2⟩ := rb'
      by_cases hin : (i1 && i2) = true
      · obtain ⟨rfl, rfl⟩ : i1 = true ∧ i2 = true := by simpa using hin
        rw [inB_iff] at hi1 hi2
        obtain ⟨hf0, hf1⟩ := hi1
        obtain ⟨ht0, ht1⟩ := hi2
        have HCP : Hid (∀ W, BelJ w1 w.heap.size #[.int .i64 la, .int .i64 lb, .int .i64 lim, .bool one] W → Calls Try.prog 40 #[.agg #[.int .i64 a.nodes, .slice A1 a.lines.length c1, .slice A2 a.srcs.length c2, .slice A3 a.users.length c3]] W fun e w' => ∃ E1 E2 E3 e1 e2 e3, e = .returned (.agg #[.int .i64 a.nodes, .slice E1 a.lines.length e1, .slice E2 a.srcs.length e2, .slice E3 a.users.length e3]) ∧ ORows w' (w.heap.size + 4) E1 E2 E3 e1 e2 e3 a ∧ Below W.heap.size W w') := fun W hW => (copyO_any a A1 A2 A3 c1 c2 c3 W (HG.out W (HX.out W hW.bel).1).1 ⟨by have := hga.nl; omega, by have := hga.ns; omega, by have := hga.nu; omega⟩).mono fun e w' ⟨E1, E2, E3, e1, e2, e3, he, ho, hb⟩ => ⟨E1, E2, E3, e1, e2, e3, he, ⟨ho.l.base hW.sz, ho.s.base hW.sz, ho.u.base hW.sz⟩, hb⟩
        have HGA := Lib.hid hga
        have HGB := Lib.hid hgb
        have HEA := Lib.hid hEa
        have HEB := Lib.hid hEb
        clear hga hgb hEa hEb hna hnb hfa hfb hin
        have hwr : IntKind.i64.wrap (a.nodes + b.nodes) = a.nodes + b.nodes := IntWalk.i64_in _ (by omega)
        go_enter Try.func45, Try.ntmps45
        go_upto_region 11 with (first
          | (go_at_call 36; with_reducible refine (HCA.out _ (HX.out _ HBJ.out.bel).1).mono ?_; rintro e w2 ⟨rfl, hb2⟩; have HB2 := Lib.hid (HBJ.out.next hb2); clear hb2 p0 p1 p2 p3 q0 q1 q2 q3; obtain ⟨_, ⟨p0, p1, p2, p3⟩, q0, q1, q2, q3⟩ := HX.out w2 HB2.out.bel)
          | (go_at_call 36; with_reducible refine (HCB.out _ (HX.out _ HB2.out.bel).1).mono ?_; rintro e w3 ⟨rfl, hb3⟩; have HB3 := Lib.hid (HB2.out.next hb3); clear hb3 p0 p1 p2 p3 q0 q1 q2 q3; obtain ⟨_, ⟨p0, p1, p2, p3⟩, q0, q1, q2, q3⟩ := HX.out w3 HB3.out.bel)
          | (go_at_call 72; with_reducible refine (HW1.out _).mono ?_; rintro e w4 ⟨rfl, hb4⟩; have HB4 := Lib.hid (HB3.out.next hb4); clear hb4 p0 p1 p2 p3 q0 q1 q2 q3; obtain ⟨_, ⟨p0, p1, p2, p3⟩, q0, q1, q2, q3⟩ := HX.out w4 HB4.out.bel)
          | (go_at_call 72; with_reducible refine (HW2.out _).mono ?_; rintro e w5 ⟨rfl, hb5⟩; have HB5 := Lib.hid (HB4.out.next hb5); clear hb5 p0 p1 p2 p3 q0 q1 q2 q3; obtain ⟨_, ⟨p0, p1, p2, p3⟩, q0, q1, q2, q3⟩ := HX.out w5 HB5.out.bel)
          | (go_at_call 40; with_reducible refine (HCP.out _ HB5.out).mono ?_; rintro e w6 ⟨E1, E2, E3, e1, e2, e3, rfl, ho6, hb6⟩; have HB6 := Lib.hid (HB5.out.next hb6); have HO6 := Lib.hid ho6; clear hb6 ho6 p0 p1 p2 p3 q0 q1 q2 q3; obtain ⟨_, ⟨p0, p1, p2, p3⟩, q0, q1, q2, q3⟩ := HX.out w6 HB6.out.bel; have hl6 : w.heap.size < w6.heap.size := (by have := HB6.out.sz; omega); have hm6 : w.heap.size + 1 < w6.heap.size := (by have := HB6.out.sz; omega))
          | fail)
        have HJ0 : Hid (JS (w6.alloc (.cells #[.int .i64 (a.nodes + b.nodes), .slice E1 a.lines.length e1, .slice E2 a.srcs.length e2, .slice E3 a.users.length e3] 26)) (w.heap.size + 4) w6.heap.size (a.nodes + b.nodes) E1 E2 E3 e1 e2 e3 a) := JS.new HO6.out.l HO6.out.s HO6.out.u
        have HBW : Hid (BelJ w1 w.heap.size #[.int .i64 la, .int .i64 lb, .int .i64 lim, .bool one] (w6.alloc (.cells #[.int .i64 (a.nodes + b.nodes), .slice E1 a.lines.length e1, .slice E2 a.srcs.length e2, .slice E3 a.users.length e3] 26))) := HB6.out.next ((Below.refl _ _).alloc (Nat.le_refl _) _)
        have HBX : Hid (w.heap.size + 4 ≤ w6.heap.size) := HB6.out.sz
        obtain ⟨wx, hwx⟩ : ∃ wx, w6.alloc (.cells #[.int .i64 (a.nodes + b.nodes), .slice E1 a.lines.length e1, .slice E2 a.srcs.length e2, .slice E3 a.users.length e3] 26) = wx := ⟨_, rfl⟩
        rw [hwx] at HJ0 HBW
        (try rw [hwx])
        have HJ : Hid (JS wx (w.heap.size + 4) w6.heap.size (a.nodes + b.nodes) E1 E2 E3 e1 e2 e3 ⟨a.nodes, a.lines, a.srcs, a.users⟩) := HJ0.out
        clear hwr hwx HJ0 HW1 HW2 HCA HCB HCP HO6 hl6 hm6 HB6 p0 p1 p2 p3 q0 q1 q2 q3
        generalize w6.heap.size = bx at *
        go_wp2_with fail
        go_loopw [14] (fun vk wr => ∃ (k : Nat) (E1 : Option Addr) (e1 : Nat), k ≤ b.lines.length ∧ vk = .int .i64 k ∧ Hid (JS wr (w.heap.size + 4) bx (a.nodes + b.nodes) E1 E2 E3 e1 e2 e3 ⟨a.nodes, a.lines ++ (b.lines.take k).map (shL a.nodes), a.srcs, a.users⟩) ∧ Hid (BelJ w1 w.heap.size #[.int .i64 la, .int .i64 lb, .int .i64 lim, .bool one] wr)) (fun vk _ => b.lines.length - (intOf vk).toNat)
        case atStart => exact ⟨0, E1, e1, Nat.zero_le _, rfl, by rw [List.take_zero, List.map_nil, List.append_nil]; exact HJ.out, HBW.out⟩
        case round =>
          clear HJ HBW
          obtain ⟨k, E1, e1, hk, rfl, HJ, HB⟩ := hrel
          rename World => wr
          obtain ⟨_, ⟨p0, p1, p2, p3⟩, q0, q1, q2, q3⟩ := HX.out wr HB.out.bel
          have hnl : b.lines.length ≤ 40 := by have := HGB.out.nl; have := HGB.out.ns; have := HGB.out.nu; omega
          have hna : a.lines.length ≤ 40 := by have := HGA.out.nl; have := HGA.out.ns; have := HGA.out.nu; omega
          by_cases hlt : k < b.lines.length
          · have HLT := Lib.hid hlt
            obtain ⟨⟨xa, xb, xl, xo⟩, fb, off, hx, hB, hfb, x0, x1, x2, x3⟩ := (HG.out wr (HX.out wr HB.out.bel).1).2.ls.at_ hlt
            dsimp only at x0 x1 x2 x3
            have hxb := HGB.out.line _ (show (⟨xa, xb, xl, xo⟩ : MLine) ∈ b.lines by rw [← hx]; exact getD_mem_of hlt dLine)
            dsimp only at hxb
            obtain ⟨⟨v0, v1⟩, ⟨v2, v3⟩, _⟩ := hxb
            subst hB
            have hfb2 := HGB.out.few
            have v1' : xa < 20 := by omega
            have v3' : xb < 20 := by omega
            obtain ⟨Lk, hLk⟩ : ∃ Lk, a.lines ++ (b.lines.take k).map (shL a.nodes) = Lk := ⟨_, rfl⟩
            have HST : Hid (a.lines ++ (b.lines.take (k + 1)).map (shL a.nodes) = Lk ++ [⟨xa + a.nodes, xb + a.nodes, xl, xo⟩]) := by
              show _ = _
              rw [take_snocL hlt, ← List.append_assoc, hLk, hx]
              rfl
            have HLN : Hid (Lk.length + 1 ≤ 1000) := by
              show _ ≤ _
              rw [← hLk]
              simp only [List.length_append, List.length_map, List.length_take]
              omega
            rw [hLk] at HJ
            clear hLk hx hfb2 hna
            have hl : w.heap.size < wr.heap.size := by have := HB.out.sz; omega
            have hm : w.heap.size + 1 < wr.heap.size := by have := HB.out.sz; omega
            have r1 : IntKind.i64.wrap (xa + a.nodes) = xa + a.nodes := IntWalk.i64_in _ (by omega)
            have r2 : IntKind.i64.wrap (xb + a.nodes) = xb + a.nodes := IntWalk.i64_in _ (by omega)
            obtain ⟨w5, hw5⟩ : ∃ w5, wr.alloc (.cells #[.int .i64 (xa + a.nodes), .int .i64 (xb + a.nodes), .int .i64 xl, .bool xo] 67) = w5 := ⟨_, rfl⟩
            have hb5 : Below wr.heap.size wr w5 := by rw [← hw5]; exact (Below.refl _ _).alloc (Nat.le_refl _) _
            have hh5 : w5.heap[wr.heap.size]? = some (.cells #[.int .i64 (xa + a.nodes), .int .i64 (xb + a.nodes), .int .i64 xl, .bool xo] 67 (0, 0)) := by rw [← hw5]; exact heap_alloc_new wr _
            have HB5 := Lib.hid (HB.out.next hb5)
            have HJ5 := Lib.hid (HJ.out.next hb5)
            have y0 := cell_of_row w5 _ 0 _ _ _ hh5
            have y1 := cell_of_row w5 _ 1 _ _ _ hh5
            have y2 := cell_of_row w5 _ 2 _ _ _ hh5
            have y3 := cell_of_row w5 _ 3 _ _ _ hh5
            have hj5 := HJ5.out.box
            have z1 := cell_of_row w5 _ 1 _ _ _ hj5
            simp only [List.getElem?_toArray, List.getElem?_cons_succ, List.getElem?_cons_zero] at y0 y1 y2 y3 z1
            clear hh5 hb5 hj5
            have hbz := HB5.out.sz
            have HA : Hid (ORow (w5.alloc (.cells #[.int .i64 (xa + a.nodes), .int .i64 (xb + a.nodes), .int .i64 xl, .bool xo] 67)) (w.heap.size + 4) 67 4 E1 e1 Lk.length (lineCell Lk)) := HJ5.out.l.next ((Below.refl _ _).alloc (Nat.le_refl _) _)
            have HJA := Lib.hid (HJ5.out.next ((Below.refl _ _).alloc (Nat.le_refl _) (.cells #[.int .i64 (xa + a.nodes), .int .i64 (xb + a.nodes), .int .i64 xl, .bool xo] 67)))
            have HBA := Lib.hid (HB5.out.next ((Below.refl _ _).alloc (Nat.le_refl _) (.cells #[.int .i64 (xa + a.nodes), .int .i64 (xb + a.nodes), .int .i64 xl, .bool xo] 67)))
            have hbx := HBX.out
            go_wp2_with (first
              | (at_builtin; refine app_line _ rfl _ _ rfl (w.heap.size + 4) E1 e1 Lk ⟨xa + a.nodes, xb + a.nodes, xl, xo⟩ rfl HA.out w5.heap.size rfl (heap_alloc_new w5 _) HLN.out (by simp; omega) ?_; intro E' e' w7 hO7 hG7; have HO7 := Lib.hid hO7; have HG7 := Lib.hid hG7; have hx7 := HG7.out.block HJA.out.box (by decide); have zz := cell_of_row w7 _ 1 _ _ _ hx7; have zf := row_frozen hx7 1; simp only [List.getElem?_toArray, List.getElem?_cons_succ, List.getElem?_cons_zero] at zz; clear hx7 hO7 hG7)
              | fail)
            have HJ8 := Lib.hid (JS.line HJA.out HG7.out HO7.out)
            have HB8 := Lib.hid ((HBA.out.grows HG7.out (Nat.le_refl _)).set 1 hbx (.slice E' (Lk.length + 1) e'))
            clear zz zf
            go_roundw
            case rel => exact ⟨k + 1, E', e', HLT.out, by go_num, by rw [HST.out]; exact HJ8.out, HB8.out⟩
            case measure => simp [intOf]; have := HLT.out; omega
          · obtain rfl : k = b.lines.length := by omega
            rw [List.take_length] at HJ
            clear hlt hk hnl hna
            obtain ⟨Lk, hLk⟩ : ∃ Lk, a.lines ++ b.lines.map (shL a.nodes) = Lk := ⟨_, rfl⟩
            have HLK := Lib.hid hLk
            have HLN : Hid (Lk.length + 1 ≤ 1000) := by
              show _ ≤ _
              rw [← hLk]
              have := HGA.out.nl; have := HGB.out.nl
              simp only [List.length_append, List.length_map]
              omega
            rw [hLk] at HJ
            clear hLk
            have hlb := HB.out.hl
            have y2 := cell_of_row wr _ 2 _ _ _ hlb
            have y3 := cell_of_row wr _ 3 _ _ _ hlb
            have hj6 := HJ.out.box
            have z1 := cell_of_row wr _ 1 _ _ _ hj6
            simp only [List.getElem?_toArray, List.getElem?_cons_succ, List.getElem?_cons_zero] at y2 y3 z1
            clear hlb hj6
            have r1 : IntKind.i64.wrap (a.nodes + tt) = a.nodes + tt := IntWalk.i64_in _ (by omega)
            have hbz := HB.out.sz
            have HA : Hid (ORow (wr.alloc (.cells #[.int .i64 ff, .int .i64 (a.nodes + tt), .int .i64 lim, .bool one] 67)) (w.heap.size + 4) 67 4 E1 e1 Lk.length (lineCell Lk)) := HJ.out.l.next ((Below.refl _ _).alloc (Nat.le_refl _) _)
            have HJA := Lib.hid (HJ.out.next ((Below.refl _ _).alloc (Nat.le_refl _) (.cells #[.int .i64 ff, .int .i64 (a.nodes + tt), .int .i64 lim, .bool one] 67)))
            have HBA := Lib.hid (HB.out.next ((Below.refl _ _).alloc (Nat.le_refl _) (.cells #[.int .i64 ff, .int .i64 (a.nodes + tt), .int .i64 lim, .bool one] 67)))
            have hbx := HBX.out
            go_upto_region 19 with (first
              | (at_builtin; refine app_line _ rfl _ _ rfl (w.heap.size + 4) E1 e1 Lk ⟨ff, a.nodes + tt, lim, one⟩ rfl HA.out wr.heap.size rfl (heap_alloc_new wr _) HLN.out (by simp; omega) ?_; intro E' e' w7 hO7 hG7; have HO7 := Lib.hid hO7; have HG7 := Lib.hid hG7; have hx7 := HG7.out.block HJA.out.box (by decide); have zz := cell_of_row w7 _ 1 _ _ _ hx7; have zf := row_frozen hx7 1; simp only [List.getElem?_toArray, List.getElem?_cons_succ, List.getElem?_cons_zero] at zz; clear hx7 hO7 hG7)
              | fail)
            have HJ8 := Lib.hid (JS.line HJA.out HG7.out HO7.out)
            have HB8 := Lib.hid ((HBA.out.grows HG7.out (Nat.le_refl _)).set 1 hbx (.slice E' (Lk.length + 1) e'))
            clear zz zf
            obtain ⟨w8, hw8⟩ : ∃ w8, w7.setCell ⟨bx, 1, none⟩ (.slice E' (Lk.length + 1) e') = w8 := ⟨_, rfl⟩
            rw [hw8] at HJ8 HB8
            (try rw [hw8])
            clear hw8 y2 y3 z1 p0 p1 p2 p3 q0 q1 q2 q3 HJ HB HA HJA HBA HO7 HG7 r1
            obtain ⟨Lf, hLf⟩ : ∃ Lf, Lk ++ [⟨ff, a.nodes + tt, lim, one⟩] = Lf := ⟨_, rfl⟩
            have HJ : Hid (JS w8 (w.heap.size + 4) bx (a.nodes + b.nodes) E' E2 E3 e' e2 e3 ⟨a.nodes, Lf, a.srcs, a.users⟩) := by rw [← hLf]; exact HJ8.out
            have HBW := HB8
            have HLF : Hid (a.lines ++ b.lines.map (shL a.nodes) ++ [⟨ff, tt + a.nodes, lim, one⟩] = Lf) := by show _ = _; rw [HLK.out, Int.add_comm tt, hLf]
            clear HJ8 HB8 hLf HLK HLN
            rename Option Addr => E1
            rename Nat => e1
            obtain ⟨_, ⟨p0, p1, p2, p3⟩, q0, q1, q2, q3⟩ := HX.out w8 HBW.out.bel
            go_wp2_with fail
            clear p0 p1 p2 p3 q0 q1 q2 q3
            go_loopw [16] (fun vk wr => ∃ (k : Nat) (E2 : Option Addr) (e2 : Nat), k ≤ b.srcs.length ∧ vk = .int .i64 k ∧ Hid (JS wr (w.heap.size + 4) bx (a.nodes + b.nodes) E1 E2 E3 e1 e2 e3 ⟨a.nodes, Lf, a.srcs ++ (b.srcs.take k).map (shS a.nodes), a.users⟩) ∧ Hid (BelJ w1 w.heap.size #[.int .i64 la, .int .i64 lb, .int .i64 lim, .bool one] wr)) (fun vk _ => b.srcs.length - (intOf vk).toNat)
            case atStart => exact ⟨0, E2, e2, Nat.zero_le _, rfl, by rw [List.take_zero, List.map_nil, List.append_nil]; exact HJ.out, HBW.out⟩
            case round =>
              clear HJ HBW
              obtain ⟨k, E2, e2, hk, rfl, HJ, HB⟩ := hrel
              rename World => wr
              obtain ⟨_, ⟨p0, p1, p2, p3⟩, q0, q1, q2, q3⟩ := HX.out wr HB.out.bel
              have hnl : b.srcs.length ≤ 40 := by have := HGB.out.nl; have := HGB.out.ns; have := HGB.out.nu; omega
              have hna : a.srcs.length ≤ 40 := by have := HGA.out.nl; have := HGA.out.ns; have := HGA.out.nu; omega
              by_cases hlt : k < b.srcs.length
              · have HLT := Lib.hid hlt
                obtain ⟨⟨xn, xp⟩, fb, off, hx, hB, hfb, x0, x1⟩ := (HG.out wr (HX.out wr HB.out.bel).1).2.ss.at_ hlt
                dsimp only at x0 x1
                have hxb := HGB.out.src _ (show (⟨xn, xp⟩ : MSrc) ∈ b.srcs by rw [← hx]; exact getD_mem_of hlt dSrc)
                dsimp only at hxb
                obtain ⟨⟨v0, v1⟩, _⟩ := hxb
                subst hB
                have hfb2 := HGB.out.few
                have v1' : xn < 20 := by omega
                obtain ⟨Lk, hLk⟩ : ∃ Lk, a.srcs ++ (b.srcs.take k).map (shS a.nodes) = Lk := ⟨_, rfl⟩
                have HST : Hid (a.srcs ++ (b.srcs.take (k + 1)).map (shS a.nodes) = Lk ++ [⟨xn + a.nodes, xp⟩]) := by
                  show _ = _
                  rw [take_snocS hlt, ← List.append_assoc, hLk, hx]
                  rfl
                have HLN : Hid (Lk.length + 1 ≤ 1000) := by
                  show _ ≤ _
                  rw [← hLk]
                  simp only [List.length_append, List.length_map, List.length_take]
                  omega
                rw [hLk] at HJ
                clear hLk hx hfb2 hna
                have hl : w.heap.size < wr.heap.size := by have := HB.out.sz; omega
                have hm : w.heap.size + 1 < wr.heap.size := by have := HB.out.sz; omega
                have r1 : IntKind.i64.wrap (xn + a.nodes) = xn + a.nodes := IntWalk.i64_in _ (by omega)
                obtain ⟨w5, hw5⟩ : ∃ w5, wr.alloc (.cells #[.int .i64 (xn + a.nodes), .int .i64 xp] 57) = w5 := ⟨_, rfl⟩
                have hb5 : Below wr.heap.size wr w5 := by rw [← hw5]; exact (Below.refl _ _).alloc (Nat.le_refl _) _
                have hh5 : w5.heap[wr.heap.size]? = some (.cells #[.int .i64 (xn + a.nodes), .int .i64 xp] 57 (0, 0)) := by rw [← hw5]; exact heap_alloc_new wr _
                have HB5 := Lib.hid (HB.out.next hb5)
                have HJ5 := Lib.hid (HJ.out.next hb5)
                have y0 := cell_of_row w5 _ 0 _ _ _ hh5
                have y1 := cell_of_row w5 _ 1 _ _ _ hh5
                have hj5 := HJ5.out.box
                have z1 := cell_of_row w5 _ 2 _ _ _ hj5
                simp only [List.getElem?_toArray, List.getElem?_cons_succ, List.getElem?_cons_zero] at y0 y1 z1
                clear hh5 hb5 hj5
                have hbz := HB5.out.sz
                have HA : Hid (ORow (w5.alloc (.cells #[.int .i64 (xn + a.nodes), .int .i64 xp] 57)) (w.heap.size + 4) 57 2 E2 e2 Lk.length (srcCell Lk)) := HJ5.out.s.next ((Below.refl _ _).alloc (Nat.le_refl _) _)
                have HJA := Lib.hid (HJ5.out.next ((Below.refl _ _).alloc (Nat.le_refl _) (.cells #[.int .i64 (xn + a.nodes), .int .i64 xp] 57)))
                have HBA := Lib.hid (HB5.out.next ((Below.refl _ _).alloc (Nat.le_refl _) (.cells #[.int .i64 (xn + a.nodes), .int .i64 xp] 57)))
                have hbx := HBX.out
                go_wp2_with (first
                  | (at_builtin; refine app_src _ rfl _ _ rfl (w.heap.size + 4) E2 e2 Lk ⟨xn + a.nodes, xp⟩ rfl HA.out w5.heap.size rfl (heap_alloc_new w5 _) HLN.out (by simp; omega) ?_; intro E' e' w7 hO7 hG7; have HO7 := Lib.hid hO7; have HG7 := Lib.hid hG7; have hx7 := HG7.out.block HJA.out.box (by decide); have zz := cell_of_row w7 _ 2 _ _ _ hx7; have zf := row_frozen hx7 2; simp only [List.getElem?_toArray, List.getElem?_cons_succ, List.getElem?_cons_zero] at zz; clear hx7 hO7 hG7)
                  | fail)
                have HJ8 := Lib.hid (JS.src HJA.out HG7.out HO7.out)
                have HB8 := Lib.hid ((HBA.out.grows HG7.out (Nat.le_refl _)).set 2 hbx (.slice E' (Lk.length + 1) e'))
                clear zz zf
                go_roundw
                case rel => exact ⟨k + 1, E', e', HLT.out, by go_num, by rw [HST.out]; exact HJ8.out, HB8.out⟩
                case measure => simp [intOf]; have := HLT.out; omega
              · obtain rfl : k = b.srcs.length := by omega
                rw [List.take_length] at HJ
                clear hlt hk hnl hna
                obtain ⟨Sf, hSf⟩ : ∃ Sf, a.srcs ++ b.srcs.map (shS a.nodes) = Sf := ⟨_, rfl⟩
                have HSF := Lib.hid hSf
                rw [hSf] at HJ
                clear hSf
                have HBW := HB
                clear HB
                go_wp2_with fail
                clear p0 p1 p2 p3 q0 q1 q2 q3
                go_loopw [18] (fun vk wr => ∃ (k : Nat) (E3 : Option Addr) (e3 : Nat), k ≤ b.users.length ∧ vk = .int .i64 k ∧ Hid (JS wr (w.heap.size + 4) bx (a.nodes + b.nodes) E1 E2 E3 e1 e2 e3 ⟨a.nodes, Lf, Sf, a.users ++ (b.users.take k).map (shU a.nodes)⟩) ∧ Hid (BelJ w1 w.heap.size #[.int .i64 la, .int .i64 lb, .int .i64 lim, .bool one] wr)) (fun vk _ => b.users.length - (intOf vk).toNat)
                case atStart => exact ⟨0, E3, e3, Nat.zero_le _, rfl, by rw [List.take_zero, List.map_nil, List.append_nil]; exact HJ.out, HBW.out⟩
                case round =>
                  clear HJ HBW
                  obtain ⟨k, E3, e3, hk, rfl, HJ, HB⟩ := hrel
                  rename World => wr
                  obtain ⟨_, ⟨p0, p1, p2, p3⟩, q0, q1, q2, q3⟩ := HX.out wr HB.out.bel
                  have hnl : b.users.length ≤ 40 := by have := HGB.out.nl; have := HGB.out.ns; have := HGB.out.nu; omega
                  have hna : a.users.length ≤ 40 := by have := HGA.out.nl; have := HGA.out.ns; have := HGA.out.nu; omega
                  by_cases hlt : k < b.users.length
                  · have HLT := Lib.hid hlt
                    obtain ⟨⟨xn, xp, xv⟩, fb, off, hx, hB, hfb, x0, x1, x2⟩ := (HG.out wr (HX.out wr HB.out.bel).1).2.us.at_ hlt
                    dsimp only at x0 x1 x2
                    have hxb := HGB.out.user _ (show (⟨xn, xp, xv⟩ : MUser) ∈ b.users by rw [← hx]; exact getD_mem_of hlt dUser)
                    dsimp only at hxb
                    obtain ⟨⟨v0, v1⟩, _⟩ := hxb
                    subst hB
                    have hfb2 := HGB.out.few
                    have v1' : xn < 20 := by omega
                    obtain ⟨Lk, hLk⟩ : ∃ Lk, a.users ++ (b.users.take k).map (shU a.nodes) = Lk := ⟨_, rfl⟩
                    have HST : Hid (a.users ++ (b.users.take (k + 1)).map (shU a.nodes) = Lk ++ [⟨xn + a.nodes, xp, xv⟩]) := by
                      show _ = _
                      rw [take_snocU hlt, ← List.append_assoc, hLk, hx]
                      rfl
                    have HLN : Hid (Lk.length + 1 ≤ 1000) := by
                      show _ ≤ _
                      rw [← hLk]
                      simp only [List.length_append, List.length_map, List.length_take]
                      omega
                    rw [hLk] at HJ
                    clear hLk hx hfb2 hna
                    have hl : w.heap.size < wr.heap.size := by have := HB.out.sz; omega
                    have hm : w.heap.size + 1 < wr.heap.size := by have := HB.out.sz; omega
                    have r1 : IntKind.i64.wrap (xn + a.nodes) = xn + a.nodes := IntWalk.i64_in _ (by omega)
                    obtain ⟨w5, hw5⟩ : ∃ w5, wr.alloc (.cells #[.int .i64 (xn + a.nodes), .int .i64 xp, .int .i64 xv] 55) = w5 := ⟨_, rfl⟩
                    have hb5 : Below wr.heap.size wr w5 := by rw [← hw5]; exact (Below.refl _ _).alloc (Nat.le_refl _) _
                    have hh5 : w5.heap[wr.heap.size]? = some (.cells #[.int .i64 (xn + a.nodes), .int .i64 xp, .int .i64 xv] 55 (0, 0)) := by rw [← hw5]; exact heap_alloc_new wr _
                    have HB5 := Lib.hid (HB.out.next hb5)
                    have HJ5 := Lib.hid (HJ.out.next hb5)
                    have y0 := cell_of_row w5 _ 0 _ _ _ hh5
                    have y1 := cell_of_row w5 _ 1 _ _ _ hh5
                    have y2 := cell_of_row w5 _ 2 _ _ _ hh5
                    have hj5 := HJ5.out.box
                    have z1 := cell_of_row w5 _ 3 _ _ _ hj5
                    simp only [List.getElem?_toArray, List.getElem?_cons_succ, List.getElem?_cons_zero] at y0 y1 y2 z1
                    clear hh5 hb5 hj5
                    have hbz := HB5.out.sz
                    have HA : Hid (ORow (w5.alloc (.cells #[.int .i64 (xn + a.nodes), .int .i64 xp, .int .i64 xv] 55)) (w.heap.size + 4) 55 3 E3 e3 Lk.length (userCell Lk)) := HJ5.out.u.next ((Below.refl _ _).alloc (Nat.le_refl _) _)
                    have HJA := Lib.hid (HJ5.out.next ((Below.refl _ _).alloc (Nat.le_refl _) (.cells #[.int .i64 (xn + a.nodes), .int .i64 xp, .int .i64 xv] 55)))
                    have HBA := Lib.hid (HB5.out.next ((Below.refl _ _).alloc (Nat.le_refl _) (.cells #[.int .i64 (xn + a.nodes), .int .i64 xp, .int .i64 xv] 55)))
                    have hbx := HBX.out
                    go_wp2_with (first
                      | (at_builtin; refine app_user _ rfl _ _ rfl (w.heap.size + 4) E3 e3 Lk ⟨xn + a.nodes, xp, xv⟩ rfl HA.out w5.heap.size rfl (heap_alloc_new w5 _) HLN.out (by simp; omega) ?_; intro E' e' w7 hO7 hG7; have HO7 := Lib.hid hO7; have HG7 := Lib.hid hG7; have hx7 := HG7.out.block HJA.out.box (by decide); have zz := cell_of_row w7 _ 3 _ _ _ hx7; have zf := row_frozen hx7 3; simp only [List.getElem?_toArray, List.getElem?_cons_succ, List.getElem?_cons_zero] at zz; clear hx7 hO7 hG7)
                      | fail)
                    have HJ8 := Lib.hid (JS.user HJA.out HG7.out HO7.out)
                    have HB8 := Lib.hid ((HBA.out.grows HG7.out (Nat.le_refl _)).set 3 hbx (.slice E' (Lk.length + 1) e'))
                    clear zz zf
                    go_roundw
                    case rel => exact ⟨k + 1, E', e', HLT.out, by go_num, by rw [HST.out]; exact HJ8.out, HB8.out⟩
                    case measure => simp [intOf]; have := HLT.out; omega
                  · obtain rfl : k = b.users.length := by omega
                    rw [List.take_length] at HJ
                    clear hlt hk hnl hna
                    obtain ⟨Uf, hUf⟩ : ∃ Uf, a.users ++ b.users.map (shU a.nodes) = Uf := ⟨_, rfl⟩
                    have HUF := Lib.hid hUf
                    have HLL : Hid (Lf.length ≤ maxLen ∧ Sf.length ≤ maxLen ∧ Uf.length ≤ maxLen) := by
                      have := HGA.out.nl; have := HGB.out.nl; have := HGA.out.ns; have := HGB.out.ns; have := HGA.out.nu; have := HGB.out.nu
                      refine ⟨?_, ?_, ?_⟩
                      · rw [← HLF.out]; unfold maxLen; simp only [List.length_append, List.length_map, List.length_cons, List.length_nil]; omega
                      · rw [← HSF.out]; unfold maxLen; simp only [List.length_append, List.length_map]; omega
                      · rw [← HUF.out]; unfold maxLen; simp only [List.length_append, List.length_map]; omega
                    rw [hUf] at HJ
                    clear hUf
                    have HGJ : Hid (joinG a b ff tt lim one = ⟨a.nodes + b.nodes, Lf, Sf, Uf⟩) := by show _ = _; unfold joinG; rw [HLF.out, HSF.out, HUF.out]
                    obtain ⟨Eg, hEg⟩ : ∃ Eg, checkG (⟨a.nodes + b.nodes, Lf, Sf, Uf⟩ : MGrid) = Eg := ⟨_, rfl⟩
                    have HOW : Hid (OwnG wr (w.heap.size + 4) ⟨a.nodes + b.nodes, Lf, Sf, Uf⟩ E1 E2 E3) := ⟨HJ.out.l.sl, HJ.out.s.sl, HJ.out.u.sl⟩
                    have HCG : Hid (Calls Try.prog 36 #[.agg #[.int .i64 (a.nodes + b.nodes), .slice E1 Lf.length e1, .slice E2 Sf.length e2, .slice E3 Uf.length e3]] wr fun e w' => e = .returned (.int .i64 Eg) ∧ Below wr.heap.size wr w') := rcheck_any ⟨a.nodes + b.nodes, Lf, Sf, Uf⟩ E1 E2 E3 e1 e2 e3 wr (HOW.out.grid HLL.out.1 HLL.out.2.1 HLL.out.2.2) hEg
                    have HEG : Hid (joinE a b ff tt lim one = Eg) := by
                      show _ = _
                      unfold joinE
                      rw [HEA.out, if_neg (by simp), HEB.out, if_neg (by simp), inB_iff.2 ⟨hf0, hf1⟩, inB_iff.2 ⟨ht0, ht1⟩, if_neg (by simp), HGJ.out, hEg]
                    have hj9 := HJ.out.box
                    have z0 := cell_of_row wr _ 0 _ _ _ hj9
                    have z1 := cell_of_row wr _ 1 _ _ _ hj9
                    have z2 := cell_of_row wr _ 2 _ _ _ hj9
                    have z3 := cell_of_row wr _ 3 _ _ _ hj9
                    simp only [List.getElem?_toArray, List.getElem?_cons_succ, List.getElem?_cons_zero] at z0 z1 z2 z3
                    clear hj9 hEg
                    by_cases hze : Eg = 0
                    · subst hze
                      go_wp2_with (first
                        | (go_at_call 36; refine HCG.out.mono ?_; rintro e' w9 ⟨rfl, hb9⟩; have HB9 := Lib.hid (HB.out.next hb9); have HJ9 := Lib.hid (HJ.out.next hb9); have HO9 := Lib.hid (HOW.out.keep hb9); clear hb9 z0 z1 z2 z3 p0 p1 p2 p3 q0 q1 q2 q3; have hz9 := HJ9.out.box; have z0 := cell_of_row w9 _ 0 _ _ _ hz9; have z1 := cell_of_row w9 _ 1 _ _ _ hz9; have z2 := cell_of_row w9 _ 2 _ _ _ hz9; have z3 := cell_of_row w9 _ 3 _ _ _ hz9; simp only [List.getElem?_toArray, List.getElem?_cons_succ, List.getElem?_cons_zero] at z0 z1 z2 z3; clear hz9; have hr9 := HB9.out.hr; have y0 := cell_of_row w9 _ 0 _ _ _ hr9; have y1 := cell_of_row w9 _ 1 _ _ _ hr9; have y2 := cell_of_row w9 _ 2 _ _ _ hr9; have y3 := cell_of_row w9 _ 3 _ _ _ hr9; have f0 := row_frozen hr9 0; have f1 := row_frozen hr9 1; have f2 := row_frozen hr9 2; have f3 := row_frozen hr9 3; simp only [List.getElem?_toArray, List.getElem?_cons_succ, List.getElem?_cons_zero] at y0 y1 y2 y3; clear hr9)
                        | fail)
                      refine bodyPost_ret (results_gridE rfl _ _ (w.heap.size + 3) _ rfl _ rfl (set4_heap HB9.out.hr _ _ _ _) rfl) rfl ?_
                      exact ⟨set4_below (HX.out _ HB9.out.bel).1 (by omega) _ _ _ _, .inr ⟨HEG.out, E1, E2, E3, e1, e2, e3, by rw [HGJ.out]; rfl, by rw [HGJ.out]; exact (set4_own HO9.out (show w.heap.size + 3 < w.heap.size + 4 by omega) _ _ _ _).base (by omega)⟩⟩
                    · have HZ : Hid (Eg ≠ 0) := hze
                      have hz' : (Eg != 0) = true := by simpa using hze
                      clear hze
                      go_wp2_with (first
                        | (go_at_call 36; refine HCG.out.mono ?_; rintro e' w9 ⟨rfl, hb9⟩; have HB9 := Lib.hid (HB.out.next hb9); clear hb9 z0 z1 z2 z3 p0 p1 p2 p3 q0 q1 q2 q3; have hr9 := HB9.out.hr; have y0 := cell_of_row w9 _ 0 _ _ _ hr9; have y1 := cell_of_row w9 _ 1 _ _ _ hr9; have y2 := cell_of_row w9 _ 2 _ _ _ hr9; have y3 := cell_of_row w9 _ 3 _ _ _ hr9; have f0 := row_frozen hr9 0; have f1 := row_frozen hr9 1; have f2 := row_frozen hr9 2; have f3 := row_frozen hr9 3; simp only [List.getElem?_toArray, List.getElem?_cons_succ, List.getElem?_cons_zero] at y0 y1 y2 y3; clear hr9)
                        | fail)
                      refine bodyPost_ret (results_gridE rfl _ _ (w.heap.size + 3) _ rfl _ rfl (set4_heap HB9.out.hr _ _ _ _) rfl) rfl ?_
                      exact ⟨set4_below (HX.out _ HB9.out.bel).1 (by omega) _ _ _ _, .inl ⟨by rw [HEG.out]; exact HZ.out, by rw [HEG.out]; rfl⟩⟩
      · have hE : joinE a b ff tt lim one = 1 := by unfold joinE; rw [hEa, if_neg (by simp), hEb, if_neg (by simp), hi1, hi2, if_pos (by simpa using hin)]
        have HE := Lib.hid hE
        clear hE hEa hEb hi1 hi2 hga hgb hna hnb hfa hfb
        cases i1
        · go_enter Try.func45, Try.ntmps45
          go_wp2_with (first
            | (go_at_call 36; with_reducible refine (HCA.out _ (HX.out _ HBJ.out.bel).1).mono ?_; rintro e w2 ⟨rfl, hb2⟩; have HB2 := Lib.hid (HBJ.out.next hb2); clear hb2 p0 p1 p2 p3 q0 q1 q2 q3; obtain ⟨_, ⟨p0, p1, p2, p3⟩, q0, q1, q2, q3⟩ := HX.out w2 HB2.out.bel)
            | (go_at_call 36; with_reducible refine (HCB.out _ (HX.out _ HB2.out.bel).1).mono ?_; rintro e w3 ⟨rfl, hb3⟩; have HB3 := Lib.hid (HB2.out.next hb3); clear hb3 p0 p1 p2 p3 q0 q1 q2 q3; obtain ⟨_, ⟨p0, p1, p2, p3⟩, q0, q1, q2, q3⟩ := HX.out w3 HB3.out.bel)
            | (go_at_call 72; with_reducible refine (HW1.out _).mono ?_; rintro e w4 ⟨rfl, hb4⟩; have HB4 := Lib.hid (HB3.out.next hb4); clear hb4 p0 p1 p2 p3 q0 q1 q2 q3; have hr4 := HB4.out.hr; have y0 := cell_of_row w4 _ 0 _ _ _ hr4; have y1 := cell_of_row w4 _ 1 _ _ _ hr4; have y2 := cell_of_row w4 _ 2 _ _ _ hr4; have y3 := cell_of_row w4 _ 3 _ _ _ hr4; have f0 := row_frozen hr4 0; have f1 := row_frozen hr4 1; have f2 := row_frozen hr4 2; have f3 := row_frozen hr4 3; simp only [List.getElem?_toArray, List.getElem?_cons_succ, List.getElem?_cons_zero] at y0 y1 y2 y3; clear hr4)
            | fail)
          refine bodyPost_ret (results_gridE rfl _ _ (w.heap.size + 3) _ rfl _ rfl (set4_heap HB4.out.hr _ _ _ _) rfl) rfl ?_
          exact ⟨set4_below (HX.out _ HB4.out.bel).1 (by omega) _ _ _ _, .inl ⟨by rw [HE.out]; decide, by rw [HE.out]; rfl⟩⟩
        · cases i2
          · go_enter Try.func45, Try.ntmps45
            go_wp2_with (first
              | (go_at_call 36; with_reducible refine (HCA.out _ (HX.out _ HBJ.out.bel).1).mono ?_; rintro e w2 ⟨rfl, hb2⟩; have HB2 := Lib.hid (HBJ.out.next hb2); clear hb2 p0 p1 p2 p3 q0 q1 q2 q3; obtain ⟨_, ⟨p0, p1, p2, p3⟩, q0, q1, q2, q3⟩ := HX.out w2 HB2.out.bel)
              | (go_at_call 36; with_reducible refine (HCB.out _ (HX.out _ HB2.out.bel).1).mono ?_; rintro e w3 ⟨rfl, hb3⟩; have HB3 := Lib.hid (HB2.out.next hb3); clear hb3 p0 p1 p2 p3 q0 q1 q2 q3; obtain ⟨_, ⟨p0, p1, p2, p3⟩, q0, q1, q2, q3⟩ := HX.out w3 HB3.out.bel)
              | (go_at_call 72; with_reducible refine (HW1.out _).mono ?_; rintro e w4 ⟨rfl, hb4⟩; have HB4 := Lib.hid (HB3.out.next hb4); clear hb4 p0 p1 p2 p3 q0 q1 q2 q3; obtain ⟨_, ⟨p0, p1, p2, p3⟩, q0, q1, q2, q3⟩ := HX.out w4 HB4.out.bel)
              | (go_at_call 72; with_reducible refine (HW2.out _).mono ?_; rintro e w5 ⟨rfl, hb5⟩; have HB5 := Lib.hid (HB4.out.next hb5); clear hb5 p0 p1 p2 p3 q0 q1 q2 q3; have hr5 := HB5.out.hr; have y0 := cell_of_row w5 _ 0 _ _ _ hr5; have y1 := cell_of_row w5 _ 1 _ _ _ hr5; have y2 := cell_of_row w5 _ 2 _ _ _ hr5; have y3 := cell_of_row w5 _ 3 _ _ _ hr5; have f0 := row_frozen hr5 0; have f1 := row_frozen hr5 1; have f2 := row_frozen hr5 2; have f3 := row_frozen hr5 3; simp only [List.getElem?_toArray, List.getElem?_cons_succ, List.getElem?_cons_zero] at y0 y1 y2 y3; clear hr5)
              | fail)
            refine bodyPost_ret (results_gridE rfl _ _ (w.heap.size + 3) _ rfl _ rfl (set4_heap HB5.out.hr _ _ _ _) rfl) rfl ?_
            exact ⟨set4_below (HX.out _ HB5.out.bel).1 (by omega) _ _ _ _, .inl ⟨by rw [HE.out]; decide, by rw [HE.out]; rfl⟩⟩
          · exact absurd rfl hin
    · have hE : joinE a b ff tt lim one = Eb := by unfold joinE; rw [hEa, if_neg (by simp), hEb, if_pos hzb]
      have HE := Lib.hid hE
      have HZ : Hid (Eb ≠ 0) := hzb
      have hz' : (Eb != 0) = true := by simpa using hzb
      clear hE hEa hEb hzb
      go_enter Try.func45, Try.ntmps45
      go_wp2_with (first
        | (go_at_call 36; with_reducible refine (HCA.out _ (HX.out _ HBJ.out.bel).1).mono ?_; rintro e w2 ⟨rfl, hb2⟩; have HB2 := Lib.hid (HBJ.out.next hb2); clear hb2 p0 p1 p2 p3 q0 q1 q2 q3; obtain ⟨_, ⟨p0, p1, p2, p3⟩, q0, q1, q2, q3⟩ := HX.out w2 HB2.out.bel)
        | (go_at_call 36; with_reducible refine (HCB.out _ (HX.out _ HB2.out.bel).1).mono ?_; rintro e w3 ⟨rfl, hb3⟩; have HB3 := Lib.hid (HB2.out.next hb3); clear hb3 p0 p1 p2 p3 q0 q1 q2 q3; have hr3 := HB3.out.hr; have y0 := cell_of_row w3 _ 0 _ _ _ hr3; have y1 := cell_of_row w3 _ 1 _ _ _ hr3; have y2 := cell_of_row w3 _ 2 _ _ _ hr3; have y3 := cell_of_row w3 _ 3 _ _ _ hr3; have f0 := row_frozen hr3 0; have f1 := row_frozen hr3 1; have f2 := row_frozen hr3 2; have f3 := row_frozen hr3 3; simp only [List.getElem?_toArray, List.getElem?_cons_succ, List.getElem?_cons_zero] at y0 y1 y2 y3; clear hr3)
        | fail)
      refine bodyPost_ret (results_gridE rfl _ _ (w.heap.size + 3) _ rfl _ rfl (set4_heap HB3.out.hr _ _ _ _) rfl) rfl ?_
      exact ⟨set4_below (HX.out _ HB3.out.bel).1 (by omega) _ _ _ _, .inl ⟨by rw [HE.out]; exact HZ.out, by rw [HE.out]; rfl⟩⟩
  · have hE : joinE a b ff tt lim one = Ea := by unfold joinE; rw [hEa, if_pos hza]
    have HE := Lib.hid hE
    have HZ : Hid (Ea ≠ 0) := hza
    have hz' : (Ea != 0) = true := by simpa using hza
    clear hE hEa hEb hza HCB
    go_enter Try.func45, Try.ntmps45
    go_wp2_with (first
      | (go_at_call 36; with_reducible refine (HCA.out _ (HX.out _ HBJ.out.bel).1).mono ?_; rintro e w2 ⟨rfl, hb2⟩; have HB2 := Lib.hid (HBJ.out.next hb2); clear hb2 p0 p1 p2 p3 q0 q1 q2 q3; have hr2 := HB2.out.hr; have y0 := cell_of_row w2 _ 0 _ _ _ hr2; have y1 := cell_of_row w2 _ 1 _ _ _ hr2; have y2 := cell_of_row w2 _ 2 _ _ _ hr2; have y3 := cell_of_row w2 _ 3 _ _ _ hr2; have f0 := row_frozen hr2 0; have f1 := row_frozen hr2 1; have f2 := row_frozen hr2 2; have f3 := row_frozen hr2 3; simp only [List.getElem?_toArray, List.getElem?_cons_succ, List.getElem?_cons_zero] at y0 y1 y2 y3; clear hr2)
      | fail)
    refine bodyPost_ret (results_gridE rfl _ _ (w.heap.size + 3) _ rfl _ rfl (set4_heap HB2.out.hr _ _ _ _) rfl) rfl ?_
    exact ⟨set4_below (HX.out _ HB2.out.bel).1 (by omega) _ _ _ _, .inl ⟨by rw [HE.out]; exact HZ.out, by rw [HE.out]; rfl⟩⟩
end Go.Proofs.Ytegclodchhcbaaa
