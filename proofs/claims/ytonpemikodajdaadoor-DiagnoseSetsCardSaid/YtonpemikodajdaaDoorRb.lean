/- Walks: the reference's split and parts; comparisons of lists. -/
import Derived.Test.YtonpemikodajdaaDoorRa
import Derived.Test.YtonpemikodajdaaDoorGr12
namespace Go.Proofs.YtonpemikodajdaaDoor
open Go.RowKit

set_option maxRecDepth 100000 in
set_option maxHeartbeats 2000000 in
theorem rsame_ints (A A' : Option Addr) (c c' : Nat) (L M : List Int) (w : World) (h : IntsA w w.heap.size A L) (h' : IntsA w w.heap.size A' M) {r : Bool} (hr : decide (L = M) = r) :
    Calls Tryd.prog 109 #[.slice A L.length c, .slice A' M.length c'] w fun e w' => e = .returned (.bool r) ∧ Below w.heap.size w w' := by
  have hlen := h.1
  have hlen' := h'.1
  unfold maxLen at hlen hlen'
  have HR := Lib.hid hr
  clear hr
  by_cases hl : L.length = M.length
  · have HL := Lib.hid hl
    rw [← hl]
    clear hl
    go_enter Tryd.func109, Tryd.ntmps109
    go_wp2_with fail
    go_loopw [5] (fun vi wr => ∃ k : Nat, k ≤ L.length ∧ vi = .int .i64 k ∧ Hid (∀ j, j < k → L.getD j 0 = M.getD j 0) ∧ Below w.heap.size w wr) (fun vi _ => L.length - (intOf vi).toNat)
    case atStart => exact ⟨0, Nat.zero_le _, rfl, (fun j hj => by omega), Below.refl _ _⟩
    case round =>
      obtain ⟨k, hk, rfl, HI, hbw⟩ := hrel
      by_cases hlt : k < L.length
      · obtain ⟨b, off, rfl, _, t0⟩ := (h.keep hbw).at_ hlt
        obtain ⟨b', off', rfl, _, t1⟩ := (h'.keep hbw).at_ (show k < M.length by rw [← HL.out]; exact hlt)
        obtain ⟨x, hx⟩ : ∃ x, L.getD k 0 = x := ⟨_, rfl⟩
        obtain ⟨y, hy⟩ : ∃ y, M.getD k 0 = y := ⟨_, rfl⟩
        rw [hx] at t0
        rw [hy] at t1
        have HX := Lib.hid hx
        have HY := Lib.hid hy
        clear hx hy
        have hbd : Below w.heap.size w wr → ∀ n, Below w.heap.size w (wr.drewN n) := fun hb n => ⟨hb.os, hb.tape, hb.output, hb.size, hb.block⟩
        have HBD := Lib.hid (hbd hbw)
        clear hbd
        by_cases he : x = y
        · have hne : (x != y) = false := by rw [he]; simp
          have HE := Lib.hid he
          clear he
          go_wp2_with fail
          go_quiet (fail)
          go_wp2_with fail
          go_roundw
          case rel => exact ⟨k + 1, by omega, by go_num, nat_snoc HI.out (by rw [HX.out, HY.out]; exact HE.out), HBD.out _⟩
          case measure => simp [intOf]; omega
        · have hne : (x != y) = true := by rw [bne_iff_ne]; omega
          have HE : Hid (x ≠ y) := he
          clear he
          go_wp2_with fail
          go_quiet (fail)
          go_wp2_with fail
          go_ret
          exact ⟨ret_b (by rw [← HR.out]; exact (eqI_no (k := k) (by rw [HX.out, HY.out]; exact HE.out)).symm), HBD.out _⟩
      · obtain rfl : k = L.length := by omega
        go_wp2_with fail
        go_ret
        exact ⟨ret_b (by rw [← HR.out]; exact (eqI_yes HL.out HI.out).symm), hbw⟩
  · have hne : ((L.length : Int) != (M.length : Int)) = true := by rw [bne_iff_ne]; omega
    have HL : Hid (¬ L.length = M.length) := hl
    clear hl
    go_enter Tryd.func109, Tryd.ntmps109
    go_wp2_with fail
    go_ret
    exact ⟨ret_b (by rw [← HR.out]; exact (decide_eq_false (fun e => HL.out (by rw [e]))).symm), Below.refl _ _⟩
set_option maxRecDepth 100000 in
set_option maxHeartbeats 2000000 in
theorem equal_ints (A A' : Option Addr) (c c' : Nat) (L M : List Int) (w : World) (h : IntsA w w.heap.size A L) (h' : IntsA w w.heap.size A' M) {r : Bool} (hr : decide (L = M) = r) :
    Calls Tryd.prog 108 #[.slice A L.length c, .slice A' M.length c'] w fun e w' => e = .returned (.bool r) ∧ Below w.heap.size w w' := by
  have hlen := h.1
  have hlen' := h'.1
  unfold maxLen at hlen hlen'
  have HR := Lib.hid hr
  clear hr
  by_cases hl : L.length = M.length
  · have HL := Lib.hid hl
    rw [← hl]
    clear hl
    go_enter Tryd.func108, Tryd.ntmps108
    go_wp2_with fail
    go_loopw [13] (fun vi wr => ∃ k : Nat, k ≤ L.length ∧ vi = .int .i64 k ∧ Hid (∀ j, j < k → L.getD j 0 = M.getD j 0) ∧ Below w.heap.size w wr) (fun vi _ => L.length - (intOf vi).toNat)
    case atStart => exact ⟨0, Nat.zero_le _, rfl, (fun j hj => by omega), Below.refl _ _⟩
    case round =>
      obtain ⟨k, hk, rfl, HI, hbw⟩ := hrel
      by_cases hlt : k < L.length
      · obtain ⟨b, off, rfl, _, t0⟩ := (h.keep hbw).at_ hlt
        obtain ⟨b', off', rfl, _, t1⟩ := (h'.keep hbw).at_ (show k < M.length by rw [← HL.out]; exact hlt)
        obtain ⟨x, hx⟩ : ∃ x, L.getD k 0 = x := ⟨_, rfl⟩
        obtain ⟨y, hy⟩ : ∃ y, M.getD k 0 = y := ⟨_, rfl⟩
        rw [hx] at t0
        rw [hy] at t1
        have HX := Lib.hid hx
        have HY := Lib.hid hy
        clear hx hy
        have hbd : Below w.heap.size w wr → ∀ n, Below w.heap.size w (wr.drewN n) := fun hb n => ⟨hb.os, hb.tape, hb.output, hb.size, hb.block⟩
        have HBD := Lib.hid (hbd hbw)
        clear hbd
        by_cases he : x = y
        · have hne : (x != y) = false := by rw [he]; simp
          have HE := Lib.hid he
          clear he
          go_wp2_with fail
          go_quiet (fail)
          go_wp2_with fail
          go_roundw
          case rel => exact ⟨k + 1, by omega, by go_num, nat_snoc HI.out (by rw [HX.out, HY.out]; exact HE.out), HBD.out _⟩
          case measure => simp [intOf]; omega
        · have hne : (x != y) = true := by rw [bne_iff_ne]; omega
          have HE : Hid (x ≠ y) := he
          clear he
          go_wp2_with fail
          go_quiet (fail)
          go_wp2_with fail
          go_ret
          exact ⟨ret_b (by rw [← HR.out]; exact (eqI_no (k := k) (by rw [HX.out, HY.out]; exact HE.out)).symm), HBD.out _⟩
      · obtain rfl : k = L.length := by omega
        go_wp2_with fail
        go_ret
        exact ⟨ret_b (by rw [← HR.out]; exact (eqI_yes HL.out HI.out).symm), hbw⟩
  · have hne : ((L.length : Int) != (M.length : Int)) = true := by rw [bne_iff_ne]; omega
    have HL : Hid (¬ L.length = M.length) := hl
    clear hl
    go_enter Tryd.func108, Tryd.ntmps108
    go_wp2_with fail
    go_ret
    exact ⟨ret_b (by rw [← HR.out]; exact (decide_eq_false (fun e => HL.out (by rw [e]))).symm), Below.refl _ _⟩

/-! ### split -/
def partN (outs : List Int) (o : Nat) (l : List Nat) : List Nat := l.filter fun i => decide (outs.getD i 0 = (o : Int))
def rowsS (outs : List Int) (l : List Nat) : List (List Int) := (List.range 4).map fun o => nI (partN outs o l)
theorem partN_bits {outs : List Int} {s o : Nat} (hs : s < 4096) : partN outs o (bitsOf s) = bitsOf (partS outs s o) := by
  unfold partN bitsOf
  rw [List.filter_filter]
  apply List.filter_congr
  intro i _
  rw [partS_bit _ _ _ _ hs, Bool.and_comm]
def partsI (outs : List Int) (s : Nat) : List (List Int) := (List.range 4).map fun o => bitsI (partS outs s o)
theorem rowsS_bits {outs : List Int} {s : Nat} (hs : s < 4096) : rowsS outs (bitsOf s) = partsI outs s := by
  unfold rowsS partsI
  apply List.map_congr_left
  intro o _
  rw [partN_bits hs]
  rfl
theorem rowsS_at {outs : List Int} {l : List Nat} {o : Nat} (ho : o < 4) : (rowsS outs l).getD o [] = nI (partN outs o l) := by
  unfold rowsS
  rw [List.getD_eq_getElem?_getD, List.getElem?_map, List.getElem?_range ho]
  rfl
theorem partsI_at {outs : List Int} {s o : Nat} (ho : o < 4) : (partsI outs s).getD o [] = bitsI (partS outs s o) := by
  unfold partsI
  rw [List.getD_eq_getElem?_getD, List.getElem?_map, List.getElem?_range ho]
  rfl
theorem rowsS_snoc {outs : List Int} {l : List Nat} {x o : Nat} (ho : o < 4) (hx : outs.getD x 0 = (o : Int)) : rowsS outs (l ++ [x]) = (rowsS outs l).set o (nI (partN outs o l) ++ [(x : Int)]) := by
  apply List.ext_getElem?
  intro j
  rw [List.getElem?_set]
  have hl : (rowsS outs l).length = 4 := by unfold rowsS; simp
  rw [hl]
  rcases Nat.lt_or_ge j 4 with hj | hj
  · have e : ∀ m, (rowsS outs m)[j]? = some (nI (partN outs j m)) := fun m => by
      unfold rowsS
      rw [List.getElem?_map, List.getElem?_range hj]
      rfl
    rw [e, e]
    have ep : partN outs j (l ++ [x]) = partN outs j l ++ if j = o then [x] else [] := by
      unfold partN
      rw [List.filter_append]
      congr 1
      by_cases h : j = o
      · subst h
        rw [if_pos rfl, List.filter_cons, decide_eq_true hx, if_pos rfl]
        rfl
      · rw [if_neg h, List.filter_cons, decide_eq_false (by omega), if_neg (by decide)]
        rfl
    by_cases h : o = j
    · subst h
      rw [if_pos rfl, if_pos ho, ep, if_pos rfl, nI_snoc]
    · rw [if_neg h, ep, if_neg (fun e => h e.symm), List.append_nil]
  · rw [if_neg (by omega), List.getElem?_eq_none (by unfold rowsS; simp; exact hj), List.getElem?_eq_none (by rw [hl]; exact hj)]
theorem partN_len (outs : List Int) (o : Nat) (l : List Nat) : (partN outs o l).length ≤ l.length := List.length_filter_le _ _
section
variable {ops : Array Oper} {rest : List Oper} {o : Oper} {a : Act} {Q : Exit → Act → World → Prop}
theorem mk_rows4 (w : World) (hg : o.guard = none) (l c : Operand) (hop : o.op = .makeSlice 23 l c) (hl : a.eval l = .int .i64 4) (hc : a.eval c = .int .i64 4)
    (hK : ∀ w', OutRR w' w.heap.size (.slice (some ⟨w.heap.size, 0, none⟩) 4 4) [[], [], [], []] → Below w.heap.size w w' → wpList Tryd.prog ops Q rest (a.put o.dst (.slice (some ⟨w.heap.size, 0, none⟩) 4 4)) w') : wpList Tryd.prog ops Q (o :: rest) a w := by
  obtain ⟨i0, hi, hz0, hz1, hz2⟩ := info_parts info_row
  refine wpList_make_full w hg l c 23 hop w.heap.size 24 i0 (.slice none 0 0) 1 under_rows hi hz0 hz1 .i64 .i64 _ _ 4 hl hc rfl rfl (by rw [hz2]; decide) (by unfold maxLen; omega) (Nat.le_refl _) (fun w' h1 h2 => hK w' ?_ ?_)
  · have hv : ∀ i, i < 4 → ((madeCells (Value.slice none 0 0).cells (4 * 1)).toList).getD i undef = .slice none 0 0 := fun i hi => made_get hi
    refine ⟨_, by simp [madeCells], h1, fun i hi => ?_, fun i k hi hk => ?_, fun i j k hi hj _ hk => ?_⟩
    · have hi : i < 4 := hi
      rw [hv i hi]
      have : ([[], [], [], []] : List (List Int)).getD i [] = [] := by
        match i, hi with
        | 0, _ => rfl
        | 1, _ => rfl
        | 2, _ => rfl
        | 3, _ => rfl
      rw [this]
      exact OutI.nil _ _
    · rw [hv i hi] at hk
      cases hk
    · rw [hv i hi] at hk
      cases hk
  · exact (Below.refl _ _).grown h2 (Nat.le_refl _) (fun k hk => by cases hk)
/-- append of one int, as a step of a region that draws -/
theorem step_app_int {K : Act → World → Prop} {E : Prop} (w : World) (hg : o.guard = none) (s x : Operand) (ho : o.op = .call { callee := .builtin .append, args := #[s, x], argTypes := #[24, 24] }) (base : Nat) (v : Value) (l : List Int)
    (hs : a.eval s = v) (hown : OutI w base v l) (wb : Nat) (y : Int) (hx : a.eval x = .slice (some ⟨wb, 0, none⟩) 1 1) (hy : w.cell? ⟨wb, 0, none⟩ = some (.int .i64 y)) (hlen : l.length ≤ 1000000) (hbase : base ≤ w.heap.size) (H : Nat) (hH : w.heap.size = H)
    (hK : ∀ g cap w', OutI w' base (.slice (some ⟨g, 0, none⟩) (l.length + 1) cap) (l ++ [y]) → w.grownBy w' v.ownBlock → (v.ownBlock = some g ∨ g = H) → K (a.put o.dst (.slice (some ⟨g, 0, none⟩) (l.length + 1) cap)) w') :
    if Region.wanted o (yielded ops a.tmps) = true then Oper.wp Tryd.prog o a w K Q else E := by
  obtain ⟨i0, hi, hz0, hz1, hz2⟩ := info_parts info_int
  refine step_append_lies w hg s x 24 ho base 3 i0 (.int .i64 0) 1 8 under_ints hi hz0 hz1 hz2 rfl (by decide) v l.length _ hs hown ⟨wb, 0, none⟩ 1 1 [.int .i64 y] hx rfl ?_ ?_ (by omega) (by unfold maxLen; omega) (by omega) hbase H hH (fun g cap w' h1 h2 h3 _ => hK g cap w' ?_ h2 h3)
  · intro j u hj
    cases j with
    | zero => simp at hj; subst hj; simpa [Addr.add] using hy
    | succ j => simp at hj
  · intro u hu; simp at hu; subst hu; rfl
  · unfold OutI
    rw [List.length_append, List.map_append]
    exact h1
end
set_option maxRecDepth 100000 in
set_option maxHeartbeats 8000000 in
theorem rsplit_any (A1 A2 : Option Addr) (c1 c2 : Nat) (c : MCase) (A : Option Addr) (cap s t : Nat) (p : MProbe) (w : World) (h : CaseA w w.heap.size A1 A2 c) (hc : CaseOk c) (hs : s < 2 ^ c.weights.length) (hI : IntsA w w.heap.size A (bitsI s)) (ht : c.tests[t]? = some p) :
    Calls Tryd.prog 98 #[.agg #[.slice A1 c.weights.length c1, .slice A2 c.tests.length c2], .slice A (bitsI s).length cap, .int .i64 t] w fun e w' => (∃ v, e = .returned v ∧ OutRR w' w.heap.size v (partsI p.outs s)) ∧ Below w.heap.size w w' := by
  have hb1 : Below w.heap.size w (w.alloc (.cells #[.slice A1 c.weights.length c1, .slice A2 c.tests.length c2] 36)) := (Below.refl _ _).alloc (Nat.le_refl _) _
  have hsz : (w.alloc (.cells #[.slice A1 c.weights.length c1, .slice A2 c.tests.length c2] 36)).heap.size = w.heap.size + 1 := by simp
  have n1 := newcell w #[.slice A1 c.weights.length c1, .slice A2 c.tests.length c2] 36 1
  simp only [List.getElem?_toArray, List.getElem?_cons_succ, List.getElem?_cons_zero] at n1
  have htl : t < c.tests.length := by
    rcases Nat.lt_or_ge t c.tests.length with h1 | h1
    · exact h1
    · rw [List.getElem?_eq_none h1] at ht; cases ht
  have hpo := hc.p t p ht
  have hm12 := hc.t
  obtain ⟨p', tb, tf, Ap, cp, ht', hA2, htb, _, m1, hcp, hIp⟩ := h.ts.at_ htl
  rw [ht] at ht'
  injection ht' with ht'
  subst ht'
  subst hA2
  have hlb := bitsI_length s
  have hlen := bitsI_len s
  rw [← rowsS_bits (pow12 hc.n2 hs)]
  have HBT : Hid (∀ k, k < (bitsOf s).length → (bitsOf s).getD k 0 < c.weights.length) := fun k hk => bits_at_lt hs hk
  have HPO := Lib.hid hpo
  have HLB := Lib.hid hlb
  have HM1 := Lib.hid m1
  have HN1 := Lib.hid n1
  clear ht hpo hlb m1 n1
  go_enter Tryd.func98, Tryd.ntmps98
  go_wp2_with (at_make; refine mk_rows4 _ rfl _ _ rfl rfl rfl ?_; intro w2 hO2 hb2; have HO2 := Lib.hid hO2; have HB2 := Lib.hid hb2; clear hO2 hb2)
  have hs2 := HB2.out.size
  rw [hsz] at hs2
  go_loopw [8] (fun vi wr => ∃ k : Nat, k ≤ (bitsI s).length ∧ vi = .int .i64 k ∧ Hid (OutRR wr (w.heap.size + 1) (.slice (some ⟨w.heap.size + 1, 0, none⟩) 4 4) (rowsS p.outs ((bitsOf s).take k))) ∧ Hid (Below (w.heap.size + 1) (w.alloc (.cells #[.slice A1 c.weights.length c1, .slice (some ⟨tb, tf, none⟩) c.tests.length c2] 36)) wr)) (fun vi _ => (bitsI s).length - (intOf vi).toNat)
  case atStart => exact ⟨0, Nat.zero_le _, rfl, (by have h9 := HO2.out; rw [hsz] at h9; exact h9), (by have h9 := HB2.out; rw [hsz] at h9; exact h9)⟩
  case round =>
    obtain ⟨k, hk, rfl, HO, HB⟩ := hrel
    have hsr := HB.out.size
    rw [hsz] at hsr
    by_cases hlt : k < (bitsI s).length
    rotate_left
    · obtain rfl : k = (bitsI s).length := by omega
      go_wp2_with fail
      go_ret
      refine ⟨⟨_, rfl, ?_⟩, hb1.trans (HB.out.mono (by omega))⟩
      have h9 := HO.out
      rw [HLB.out, List.take_length] at h9
      exact h9.base (by omega)
    · have hkb : k < (bitsOf s).length := by rw [← HLB.out]; exact hlt
      have hx := HBT.out k hkb
      have hbw := hb1.trans (HB.out.mono (by omega))
      obtain ⟨ib, io, hA, hib, i0⟩ := (hI.keep hbw).at_ hlt
      subst hA
      rw [bitsI_get hkb] at i0
      have HTK : Hid ((bitsOf s).take (k + 1) = (bitsOf s).take k ++ [(bitsOf s).getD k 0]) := by
        show _ = _
        rw [List.take_add_one, List.getElem?_eq_getElem hkb, List.getD_eq_getElem?_getD, List.getElem?_eq_getElem hkb]
        rfl
      obtain ⟨hpc, hpl, hpr⟩ := HPO.out
      obtain ⟨x, hxe⟩ : ∃ x, (bitsOf s).getD k 0 = x := ⟨_, rfl⟩
      rw [hxe] at hx i0 HTK
      obtain ⟨ob, oo, hAp, hob, o0⟩ := (hIp.keep hbw).at_ (show x < p.outs.length by omega)
      subst hAp
      have hr := hpr x (by omega)
      obtain ⟨o, ho⟩ : ∃ o : Nat, p.outs.getD x 0 = (o : Int) := ⟨(p.outs.getD x 0).toNat, by omega⟩
      rw [ho] at o0 hr
      have ho4 : o < 4 := by omega
      have hxl : x < p.outs.length := by omega
      have r1 := (bcell HB.out w.heap.size 1 (by omega)).trans HN1.out
      have t1 := (bcell hbw tb (tf + t * 2 + 1) htb).trans HM1.out
      have HRS : Hid (rowsS p.outs ((bitsOf s).take (k + 1)) = (rowsS p.outs ((bitsOf s).take k)).set o (nI (partN p.outs o ((bitsOf s).take k)) ++ [(x : Int)])) := by
        show _ = _
        rw [HTK.out]
        exact rowsS_snoc ho4 ho
      have hrl : o < (rowsS p.outs ((bitsOf s).take k)).length := by unfold rowsS; simp; exact ho4
      have HRA : Hid ((rowsS p.outs ((bitsOf s).take k)).getD o [] = nI (partN p.outs o ((bitsOf s).take k))) := rowsS_at ho4
      have hpn : (nI (partN p.outs o ((bitsOf s).take k))).length ≤ 12 := by
        rw [nI_len]
        refine Nat.le_trans (partN_len _ _ _) ?_
        rw [List.length_take]
        have := bitsOf_len s
        omega
      generalize nI (partN p.outs o ((bitsOf s).take k)) = R at *
      have hcp' : c.tests.length ≤ maxLen := by unfold maxLen; omega
      have ho5 : (o : Int) < 4 := by omega
      clear hxe ho hpc hpl hpr hr
      go_wp2_with fail
      go_quiet (fail)
      obtain ⟨w4, hw4⟩ : ∃ w4, w4 = wr.drewN nq := ⟨_, rfl⟩
      have HB4 : Hid (Below (w.heap.size + 1) (w.alloc (.cells #[.slice A1 c.weights.length c1, .slice (some ⟨tb, tf, none⟩) c.tests.length c2] 36)) w4) := by rw [hw4]; exact ⟨HB.out.os, HB.out.tape, HB.out.output, HB.out.size, HB.out.block⟩
      have i4 : w4.cell? ⟨ib, io + k, none⟩ = some (.int .i64 (x : Int)) := by rw [hw4]; exact i0
      have HO4 : Hid (OutRR w4 (w.heap.size + 1) (.slice (some ⟨w.heap.size + 1, 0, none⟩) 4 4) (rowsS p.outs ((bitsOf s).take k))) := by rw [hw4]; exact HO.out
      have hs4 : w.heap.size + 1 ≤ w4.heap.size := by rw [hw4]; exact hsr
      rw [← hw4]
      clear hw4 i0 r1 t1 o0 HB HO hbw hsr
      have hgl4 : w.heap.size + 1 < w4.heap.size := (HO4.out.lt (w.heap.size + 1) rfl).2
      have HO6 : Hid (OutRR (w4.drew.alloc (.cells #[.int .i64 x] 3)) (w.heap.size + 1) (.slice (some ⟨w.heap.size + 1, 0, none⟩) 4 4) (rowsS p.outs ((bitsOf s).take k))) := HO4.out.keep fun g _ hg => Below.heap_alloc w4 _ g hg
      obtain ⟨g', cap', vi, hv', _, hgl', m0', f0', hOi', hvg', hset'⟩ := HO6.out.at_ hrl
      injection hv' with hA' hln' hcap'
      injection hA' with hA'
      injection hA' with hA'
      subst hA'
      clear hln' hcap'
      rw [HRA.out] at hOi'
      obtain ⟨Ai, ci, hvi, _, _⟩ := hOi'.reads
      subst hvi
      have m4 : w4.cell? ⟨w.heap.size + 1, o, none⟩ = some (.slice Ai R.length ci) := (acell w4 (.cells #[.int .i64 x] 3) (w.heap.size + 1) o hgl4).symm.trans m0'
      have HOi := Lib.hid hOi'
      have HOI := Lib.hid (own_block_lt hOi')
      have HST := Lib.hid hset'
      have HQ0 := Lib.hid (newcell w4.drew #[.int .i64 x] 3 0)
      have hl6 : R.length ≤ 1000000 := by omega
      have hs6 : w.heap.size + 1 ≤ (w4.drew.alloc (.cells #[.int .i64 x] 3)).heap.size := by simp; omega
      have HVG := Lib.hid hvg'
      have HM0 := Lib.hid m0'
      have HF0 := Lib.hid f0'
      have HGL := Lib.hid hgl'
      have HB6 := Lib.hid (HB4.out.drew.alloc (by simpa using hs4) (Obj.cells #[.int .i64 x] 3))
      clear hset' hOi' hvg' m0' f0' hgl'
      go_wp2_with fail
      go_region_law ((refine step_app_int _ (by rfl) _ _ (by rfl) (w.heap.size + 1) _ R (by rfl) HOi.out w4.heap.size x (by rfl) HQ0.out hl6 hs6 _ (by rfl) ?_; intro g7 q7 w7 hO7 hg7 hat7; have c7 := (hg7.cell_far ⟨w.heap.size + 1, o, none⟩ HGL.out (fun e => HVG.out e.symm)).trans HM0.out; have f7 := (hg7.frozen_far ⟨w.heap.size + 1, o, none⟩ HGL.out (fun e => HVG.out e.symm)).trans HF0.out; have HO7 := Lib.hid hO7; have HG7 := Lib.hid hg7; have HAT := Lib.hid hat7; clear hO7 hg7 hat7))
      all_goals
        go_wp2_with fail
        go_roundw
        case rel =>
          refine ⟨k + 1, by omega, by go_num, ?_, ?_⟩
          · rw [HRS.out]
            exact HST.out w7 w7 _ _ HG7.out HO7.out (HAT.out.imp (fun e => e.symm) (fun e => by rw [e]; rfl)) rfl
          · exact (HB6.out.grown HG7.out (by simp; omega) (fun b hb => (HOI.out b hb).1)).setCell (p := ⟨w.heap.size + 1, o, none⟩) (by simp) _
        case measure => simp [intOf]; omega
end Go.Proofs.YtonpemikodajdaaDoor
