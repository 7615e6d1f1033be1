/- Walks: diagnose.split. -/
import Derived.Test.YtonpemikodajdaaDoorCs4
import Derived.Test.YtonpemikodajdaaDoorTail
import Derived.Laws.BitsAllLaws
namespace Go.Proofs.YtonpemikodajdaaDoor
open Go.RowKit

theorem partL_app (outs : List Int) (o : Nat) : ∀ l r : List Nat, partL outs o (l ++ r) = partL outs o l ||| partL outs o r
  | [], r => by simp [partL]
  | i :: l, r => by
    rw [List.cons_append, partL, partL, partL_app outs o l r]
    by_cases h : outs.getD i 0 = o
    · rw [if_pos h, if_pos h, Nat.or_assoc]
    · rw [if_neg h, if_neg h]
theorem take_snoc' {l : List Nat} {k x : Nat} (h : l[k]? = some x) : l.take (k + 1) = l.take k ++ [x] := by
  rw [List.take_add_one, h]; rfl
theorem partL_hit {outs : List Int} {l : List Nat} {k x o : Nat} (h : l[k]? = some x) (ho : outs.getD x 0 = o) : partL outs o (l.take (k + 1)) = partL outs o (l.take k) ||| 2 ^ x := by
  rw [take_snoc' h, partL_app, partL, if_pos ho, partL, Nat.or_zero]
theorem partL_miss {outs : List Int} {l : List Nat} {k x o : Nat} (h : l[k]? = some x) (ho : outs.getD x 0 ≠ o) : partL outs o (l.take (k + 1)) = partL outs o (l.take k) := by
  rw [take_snoc' h, partL_app, partL, if_neg ho, partL, Nat.or_zero]
theorem own_new (w : World) (cs : Array Value) (T : TypeId) {n : Nat} {f : Nat → Value} (hn : n ≤ cs.size) (hf : ∀ j, j < n → cs[j]? = some (f j)) : OwnF (w.alloc (.cells cs T)) w.heap.size T n f :=
  ⟨cs, heap_alloc_new w _, hn, hf⟩
theorem ix0 (a b c d : Value) (w : World) : (Instr.index 143 (.agg #[a, b, c, d]) (.int .i64 0)).run Tryd.prog w = .ok a w := by kernel_rfl
theorem ix1 (a b c d : Value) (w : World) : (Instr.index 143 (.agg #[a, b, c, d]) (.int .i64 1)).run Tryd.prog w = .ok b w := by kernel_rfl
theorem ix2 (a b c d : Value) (w : World) : (Instr.index 143 (.agg #[a, b, c, d]) (.int .i64 2)).run Tryd.prog w = .ok c w := by kernel_rfl
theorem ix3 (a b c d : Value) (w : World) : (Instr.index 143 (.agg #[a, b, c, d]) (.int .i64 3)).run Tryd.prog w = .ok d w := by kernel_rfl
theorem cell_far2 {w : World} {b b' o o' : Nat} {u : Value} (h : b ≠ b') : (w.setCell ⟨b', o', none⟩ u).cell? ⟨b, o, none⟩ = w.cell? ⟨b, o, none⟩ :=
  World.cell?_of_block (w := w) (Below.heap_setCell w ⟨b', o', none⟩ u b h)
set_option maxRecDepth 100000 in
set_option maxHeartbeats 2000000 in
theorem split_any (t : MProbe) (Ap : Option Addr) (cp : Nat) (s n : Nat) (w : World) (hT : TabW w) (hO : IntsA w w.heap.size Ap t.outs) (hn : t.outs.length = n) (hn12 : n ≤ 12) (ho : ∀ i, i < t.outs.length → 0 ≤ t.outs.getD i 0 ∧ t.outs.getD i 0 ≤ 3) (hs : s < 2 ^ n)
    {x0 x1 x2 x3 R : Nat} (h0 : partS t.outs s 0 = x0) (h1 : partS t.outs s 1 = x1) (h2 : partS t.outs s 2 = x2) (h3 : partS t.outs s 3 = x3) (hR : partsTo t.outs s 4 = R) :
    Calls Tryd.prog 94 #[.agg #[.int .i64 t.cost, .slice Ap t.outs.length cp], .int .u64 s] w fun e w' => e = .returned (.tuple #[.agg #[.int .u64 x0, .int .u64 x1, .int .u64 x2, .int .u64 x3], .int .i64 R]) ∧ Below w.heap.size w w' := by
  have HX0 := Lib.hid h0
  have HX1 := Lib.hid h1
  have HX2 := Lib.hid h2
  have HX3 := Lib.hid h3
  have HR := Lib.hid hR
  have HP : Hid (∀ o, partsTo t.outs s (o + 1) = partsTo t.outs s o + if 0 < partS t.outs s o then 1 else 0) := fun o => rfl
  have P0 : Hid (partsTo t.outs s 1 = partsTo t.outs s 0 + if 0 < x0 then 1 else 0) := by rw [← h0]; exact HP.out 0
  have P1 : Hid (partsTo t.outs s 2 = partsTo t.outs s 1 + if 0 < x1 then 1 else 0) := by rw [← h1]; exact HP.out 1
  have P2 : Hid (partsTo t.outs s 3 = partsTo t.outs s 2 + if 0 < x2 then 1 else 0) := by rw [← h2]; exact HP.out 2
  have P3 : Hid (partsTo t.outs s 4 = partsTo t.outs s 3 + if 0 < x3 then 1 else 0) := by rw [← h3]; exact HP.out 3
  have HQ0 : Hid (partsTo t.outs s 0 = 0) := rfl
  clear h0 h1 h2 h3 hR HP
  have hs12 := two12 hs hn12
  have HO := Lib.hid ho
  have HB := Lib.hid (fun i (hi : i ∈ bitsOf s) => bits_lt hs hi)
  obtain ⟨m, hm⟩ : ∃ m, (bitsI s).length = m := ⟨_, rfl⟩
  have hll := bitsI_len s
  rw [hm] at hll
  have HLL := Lib.hid (bitsI_length s)
  have HM := Lib.hid hm
  clear hm ho hs
  have HN := Lib.hid hn
  clear hn
  have hb0 : Below w.heap.size w ((w.alloc (.cells #[.int .i64 t.cost, .slice Ap t.outs.length cp] 50)).alloc (.cells #[.int .u64 0, .int .u64 0, .int .u64 0, .int .u64 0] 143)) := ((Below.refl _ _).alloc (Nat.le_refl _) _).alloc (by simp) _
  have hT0 := hT.keep hb0
  go_enter Tryd.func94, Tryd.ntmps94
  go_wp2_with (go_at_call 65; refine (list_r s _ hs12 hT0 HM.out).mono ?_; rintro e w1 ⟨Lb, lc, rfl, hlc, _, hb1, hI⟩)
  have hOw : OwnF ((w.alloc (.cells #[.int .i64 t.cost, .slice Ap t.outs.length cp] 50)).alloc (.cells #[.int .u64 0, .int .u64 0, .int .u64 0, .int .u64 0] 143)) (w.heap.size + 1) 143 4 (fun o => .int .u64 ((partL t.outs o ((bitsOf s).take 0) : Nat) : Int)) := by
    have := own_new (w.alloc (.cells #[.int .i64 t.cost, .slice Ap t.outs.length cp] 50)) #[.int .u64 0, .int .u64 0, .int .u64 0, .int .u64 0] 143 (n := 4) (f := fun o => .int .u64 ((partL t.outs o ((bitsOf s).take 0) : Nat) : Int)) (by simp) (fun j hj => by
      rw [List.take_zero, partL]
      rcases j with _ | _ | _ | _ | j
      · rfl
      · rfl
      · rfl
      · rfl
      · omega)
    simpa using this
  have q1 := newcell w #[.int .i64 t.cost, .slice Ap t.outs.length cp] 50 1
  simp only [List.getElem?_toArray, List.getElem?_cons_succ, List.getElem?_cons_zero] at q1
  have q1 := (acell _ (.cells #[.int .u64 0, .int .u64 0, .int .u64 0, .int .u64 0] 143) w.heap.size 1 (by simp)).trans q1
  have hO1 := hO.keep (hb0.trans (hb1.mono hb0.size))
  have hsz0 : ((w.alloc (.cells #[.int .i64 t.cost, .slice Ap t.outs.length cp] 50)).alloc (.cells #[.int .u64 0, .int .u64 0, .int .u64 0, .int .u64 0] 143)).heap.size = w.heap.size + 2 := by simp
  have hOw1 := hOw.below hb1 (by omega)
  have q1 := (bcell hb1 w.heap.size 1 (by omega)).trans q1
  have hbw1 := hb0.trans (hb1.mono hb0.size)
  have hs1 := hb1.size
  rw [hsz0] at hs1
  clear hb0 hb1 hOw hT0
  go_loopw [13] (fun vi wr => ∃ k : Nat, k ≤ m ∧ vi = .int .i64 k ∧ OwnF wr (w.heap.size + 1) 143 4 (fun o => .int .u64 ((partL t.outs o ((bitsOf s).take k) : Nat) : Int)) ∧ Below w.heap.size w wr ∧ OutI wr (w.heap.size + 2) (.slice Lb m lc) (bitsI s) ∧ wr.cell? ⟨w.heap.size, 1, none⟩ = some (.slice Ap t.outs.length cp)) (fun vi _ => m - (intOf vi).toNat)
  case atStart => exact ⟨0, Nat.zero_le _, rfl, hOw1, hbw1, by rw [hsz0] at hI; exact hI, q1⟩
  case round =>
    clear hOw1 hbw1 q1 hI hO1
    obtain ⟨k, hk, rfl, hOw, hbw, hI, q1⟩ := hrel
    by_cases hlt : k < m
    · obtain ⟨i, hi, him, hg⟩ := bitsI_at (s := s) (k := k) (by have := HM.out; omega)
      have hin := HB.out i him
      have hil : i < t.outs.length := by have := HN.out; omega
      obtain ⟨xb, rfl, hxb0, hxb, x0⟩ := hI.at_ HM.out hlt
      rw [hg] at x0
      obtain ⟨ob, oo, rfl, hob, o0⟩ := (hO.keep hbw).at_ (k := i) hil
      have hoi := HO.out i hil
      have HI := Lib.hid hi
      have hbk := hOw.cell (j := (t.outs.getD i 0).toNat) (by omega)
      have hbf := hOw.frozen (t.outs.getD i 0).toNat
      obtain ⟨ov, hov⟩ : ∃ ov : Nat, t.outs.getD i 0 = (ov : Int) := ⟨(t.outs.getD i 0).toNat, by omega⟩
      have HOV := Lib.hid hov
      rw [hov] at o0 hbk hbf hoi
      rw [Int.toNat_natCast] at hbk hbf
      have hnn : partL t.outs ov ((bitsOf s).take k) < 4096 := partL_lt _ _ _ fun j hj => (mem_bitsOf.1 (List.mem_of_mem_take hj)).1
      clear hi him hg hov
      generalize hpp : partL t.outs ov ((bitsOf s).take k) = pp at *
      have HPP := Lib.hid hpp
      clear hpp
      have HN2 : Hid (∀ o, o < 4 → (if o = ov then Value.int .u64 ((pp ||| 2 ^ i : Nat) : Int) else .int .u64 ((partL t.outs o ((bitsOf s).take k) : Nat) : Int)) = .int .u64 ((partL t.outs o ((bitsOf s).take (k + 1)) : Nat) : Int)) := fun o _ => by
        by_cases e : o = ov
        · subst e
          rw [if_pos rfl, partL_hit HI.out HOV.out, HPP.out]
        · rw [if_neg e, partL_miss HI.out (by rw [HOV.out]; omega)]
      have hq12 : 2 ^ i < 4096 := by
        have : 2 ^ i < 2 ^ 12 := Nat.pow_lt_pow_right (by omega) (show i < 12 by omega)
        exact this
      have hc : ((2 : Int) ^ i) = ((2 ^ i : Nat) : Int) := by simp
      generalize (2 ^ i : Nat) = q at *
      have e1 : IntKind.u64.wrap ((2 : Int) ^ i) = (q : Int) := by rw [hc]; exact IntWalk.u64_in _ (by omega)
      have e2 : bits BinOp.or IntKind.u64 (pp : Int) (q : Int) = ((pp ||| q : Nat) : Int) := u64_or_nat _ _ (by omega) (by omega)
      clear hc
      generalize hrr : pp ||| q = r at *
      clear hrr
      go_wp2_with fail
      refine wp_region_quiet_tail 10 (by kernel_rfl) (by kernel_rfl) ?_
      simp only [List.take_succ_cons, List.take_zero, List.drop_succ_cons, List.drop_zero]
      repeat (go_big_quiet_step (fail))
      refine wpQuiet_nil ?_
      clear e1 e2
      go_wp2_with fail
      go_roundw
      case rel => exact ⟨k + 1, by omega, by go_num, (hOw.set ov (.int .u64 (r : Int))).congr HN2.out, (hbw.setCell (p := ⟨w.heap.size + 1, ov, none⟩) (Nat.le_succ _) _).drew, World.ownsRow.drew (own_set hI (a := ⟨w.heap.size + 1, ov, none⟩) (by show w.heap.size + 1 < w.heap.size + 2; omega) _), (cell_far2 (by omega)).trans q1⟩
      case measure => simp [intOf]; omega
    · obtain rfl : k = m := by omega
      have htk : (bitsOf s).take k = bitsOf s := List.take_of_length_le (by rw [← HLL.out, HM.out]; exact Nat.le_refl _)
      rw [htk] at hOw
      have hOw : OwnF wr (w.heap.size + 1) 143 4 (fun o => .int .u64 ((partS t.outs s o : Nat) : Int)) := hOw
      have d0 := hOw.cell (j := 0) (by omega)
      have d1 := hOw.cell (j := 1) (by omega)
      have d2 := hOw.cell (j := 2) (by omega)
      have d3 := hOw.cell (j := 3) (by omega)
      have f0 := hOw.frozen 0
      have f1 := hOw.frozen 1
      have f2 := hOw.frozen 2
      have f3 := hOw.frozen 3
      rw [HX0.out] at d0
      rw [HX1.out] at d1
      rw [HX2.out] at d2
      rw [HX3.out] at d3
      have HOW := Lib.hid hOw
      clear hOw htk
      go_wp2_with fail
      go_loop [5, 30] (fun vp vi => ∃ k : Nat, k ≤ 4 ∧ vi = .int .i64 k ∧ ∃ q : Nat, vp = .int .i64 q ∧ q ≤ k ∧ Hid (partsTo t.outs s k = q)) (fun _ vi => 4 - (intOf vi).toNat)
      case atStart => exact ⟨0, Nat.zero_le _, rfl, 0, rfl, Nat.le_refl _, HQ0.out⟩
      case round =>
        obtain ⟨k, hk4, rfl, q, rfl, hq, HQ⟩ := hrel
        have i0 := ix0 (.int .u64 x0) (.int .u64 x1) (.int .u64 x2) (.int .u64 x3)
        have i1 := ix1 (.int .u64 x0) (.int .u64 x1) (.int .u64 x2) (.int .u64 x3)
        have i2 := ix2 (.int .u64 x0) (.int .u64 x1) (.int .u64 x2) (.int .u64 x3)
        have i3 := ix3 (.int .u64 x0) (.int .u64 x1) (.int .u64 x2) (.int .u64 x3)
        rcases (show k = 0 ∨ k = 1 ∨ k = 2 ∨ k = 3 ∨ k = 4 by omega) with rfl | rfl | rfl | rfl | rfl
        · by_cases h0 : 0 < x0
          · go_wp2_with fail
            go_round
            case rel => exact ⟨1, by omega, rfl, q + 1, by go_num, by omega, by show _ = _; rw [P0.out, HQ.out, if_pos h0]⟩
            case measure => simp [intOf]
          · have hd0 : decide (0 < x0) = false := decide_eq_false h0
            go_wp2_with fail
            go_round
            case rel => exact ⟨1, by omega, rfl, q, rfl, by omega, by show _ = _; rw [P0.out, HQ.out, if_neg h0]; rfl⟩
            case measure => simp [intOf]
        · by_cases h0 : 0 < x1
          · go_wp2_with fail
            go_round
            case rel => exact ⟨2, by omega, rfl, q + 1, by go_num, by omega, by show _ = _; rw [P1.out, HQ.out, if_pos h0]⟩
            case measure => simp [intOf]
          · have hd0 : decide (0 < x1) = false := decide_eq_false h0
            go_wp2_with fail
            go_round
            case rel => exact ⟨2, by omega, rfl, q, rfl, by omega, by show _ = _; rw [P1.out, HQ.out, if_neg h0]; rfl⟩
            case measure => simp [intOf]
        · by_cases h0 : 0 < x2
          · go_wp2_with fail
            go_round
            case rel => exact ⟨3, by omega, rfl, q + 1, by go_num, by omega, by show _ = _; rw [P2.out, HQ.out, if_pos h0]⟩
            case measure => simp [intOf]
          · have hd0 : decide (0 < x2) = false := decide_eq_false h0
            go_wp2_with fail
            go_round
            case rel => exact ⟨3, by omega, rfl, q, rfl, by omega, by show _ = _; rw [P2.out, HQ.out, if_neg h0]; rfl⟩
            case measure => simp [intOf]
        · by_cases h0 : 0 < x3
          · go_wp2_with fail
            go_round
            case rel => exact ⟨4, by omega, rfl, q + 1, by go_num, by omega, by show _ = _; rw [P3.out, HQ.out, if_pos h0]⟩
            case measure => simp [intOf]
          · have hd0 : decide (0 < x3) = false := decide_eq_false h0
            go_wp2_with fail
            go_round
            case rel => exact ⟨4, by omega, rfl, q, rfl, by omega, by show _ = _; rw [P3.out, HQ.out, if_neg h0]; rfl⟩
            case measure => simp [intOf]
        · have : q = R := by rw [← HQ.out, HR.out]
          subst this
          clear i0 i1 i2 i3
          go_wp2_with fail
          have hb9 : Below w.heap.size w ((((wr.setCell ⟨w.heap.size + 1, 0, none⟩ (.int .u64 x0)).setCell ⟨w.heap.size + 1, 1, none⟩ (.int .u64 x1)).setCell ⟨w.heap.size + 1, 2, none⟩ (.int .u64 x2)).setCell ⟨w.heap.size + 1, 3, none⟩ (.int .u64 x3)) :=
            (((hbw.setCell (p := ⟨w.heap.size + 1, 0, none⟩) (Nat.le_succ _) _).setCell (p := ⟨w.heap.size + 1, 1, none⟩) (Nat.le_succ _) _).setCell (p := ⟨w.heap.size + 1, 2, none⟩) (Nat.le_succ _) _).setCell (p := ⟨w.heap.size + 1, 3, none⟩) (Nat.le_succ _) _
          have hO9 : OwnF ((((wr.setCell ⟨w.heap.size + 1, 0, none⟩ (.int .u64 x0)).setCell ⟨w.heap.size + 1, 1, none⟩ (.int .u64 x1)).setCell ⟨w.heap.size + 1, 2, none⟩ (.int .u64 x2)).setCell ⟨w.heap.size + 1, 3, none⟩ (.int .u64 x3)) (w.heap.size + 1) 143 4 _ :=
            (((HOW.out.set 0 (.int .u64 x0)).set 1 (.int .u64 x1)).set 2 (.int .u64 x2)).set 3 (.int .u64 x3)
          have e0 := hO9.cell (j := 0) (by omega)
          have e1 := hO9.cell (j := 1) (by omega)
          have e2 := hO9.cell (j := 2) (by omega)
          have e3 := hO9.cell (j := 3) (by omega)
          simp at e0 e1 e2 e3
          clear hO9
          generalize (((wr.setCell ⟨w.heap.size + 1, 0, none⟩ (.int .u64 x0)).setCell ⟨w.heap.size + 1, 1, none⟩ (.int .u64 x1)).setCell ⟨w.heap.size + 1, 2, none⟩ (.int .u64 x2)).setCell ⟨w.heap.size + 1, 3, none⟩ (.int .u64 x3) = w9 at *
          exact bodyPost_ret (v := .tuple #[.agg #[.int .u64 x0, .int .u64 x1, .int .u64 x2, .int .u64 x3], .int .i64 q]) (by simp [results, Tryd.results94, go_sem, e0, e1, e2, e3]) rfl ⟨rfl, hb9⟩
end Go.Proofs.YtonpemikodajdaaDoor
