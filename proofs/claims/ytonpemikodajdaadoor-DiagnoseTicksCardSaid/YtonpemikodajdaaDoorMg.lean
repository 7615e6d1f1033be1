/- Walk: the reference's step. -/
import Derived.Test.YtonpemikodajdaaDoorMf
import Derived.Deep.Cut
import Derived.Deep.CutBlock
import Derived.Shelf.RegionOpenPlain
namespace Go.Proofs.YtonpemikodajdaaDoor
open Go.RowKit

/-- the reference's memory in the midst of a step, the monitor at block xb -/
def StW (w : World) (B mb xb : Nat) (t : Int) (m : MMon) (s : WSt) (wx : World) : Prop :=
  ∃ VC VK V K, K.map Prod.fst = s.ks ∧ RS wx B mb t VC s.ns VK s.cs V K ∧ wx.heap[xb]? = some (.cells #[.int .i64 m.sig, .int .i64 m.low, .int .i64 m.high, .int .i64 m.up, .int .i64 m.down, .int .i64 m.limit, .int .i64 m.heal] 44 (0, 0)) ∧
    (mb ≠ xb ∧ VC.ownBlock ≠ some xb ∧ VK.ownBlock ≠ some xb ∧ V.ownBlock ≠ some xb) ∧ Below B w wx
def RT (w : World) (B mb : Nat) (t : Int) (s : WSt) : Prop := ∃ VC VK V K, K.map Prod.fst = s.ks ∧ RS w B mb t VC s.ns VK s.cs V K
theorem StW.below {w wx wy : World} {B mb xb : Nat} {t : Int} {m : MMon} {s : WSt} (h : StW w B mb xb t m s wx) {B' : Nat} (hb : Below B' wx wy) (hB : wx.heap.size ≤ B') (hBB : B ≤ B') : StW w B mb xb t m s wy := by
  obtain ⟨VC, VK, V, K, h1, h2, h3, h4, h5⟩ := h
  exact ⟨VC, VK, V, K, h1, h2.below hb hB, (hb.block xb (by have := lt_of_block h3; omega)).trans h3, h4, h5.trans (hb.mono hBB)⟩
theorem StW.drewN {w wx : World} {B mb xb : Nat} {t : Int} {m : MMon} {s : WSt} (h : StW w B mb xb t m s wx) (n : Nat) : StW w B mb xb t m s (wx.drewN n) := by
  obtain ⟨VC, VK, V, K, h1, h2, h3, h4, h5⟩ := h
  exact ⟨VC, VK, V, K, h1, h2.below (B' := wx.heap.size) ⟨rfl, rfl, rfl, Nat.le_refl _, fun _ _ => rfl⟩ (Nat.le_refl _), h3, h4, ⟨h5.os, h5.tape, h5.output, h5.size, h5.block⟩⟩
theorem StW.counted {w wx : World} {B mb xb : Nat} {t : Int} {m : MMon} {s : WSt} {cb n c : Nat} {VK V : Value} {K : List (MCode × Value)} (hS : RS wx B mb t (.slice (some ⟨cb, 0, none⟩) n c) s.ns VK s.cs V K)
    (hd : K.map Prod.fst = s.ks ∧ wx.heap[xb]? = some (.cells #[.int .i64 m.sig, .int .i64 m.low, .int .i64 m.high, .int .i64 m.up, .int .i64 m.down, .int .i64 m.limit, .int .i64 m.heal] 44 (0, 0)) ∧
      (mb ≠ xb ∧ (Value.slice (some ⟨cb, 0, none⟩) n c).ownBlock ≠ some xb ∧ VK.ownBlock ≠ some xb ∧ V.ownBlock ≠ some xb) ∧ Below B w wx) (i : Nat) {x y : Int} (hxy : x = y) :
    StW w B mb xb t m { s with ns := s.ns.set i y } (wx.setCell ⟨cb, i, none⟩ (.int .i64 y)).drew := by
  subst hxy
  have hcx : xb ≠ cb := fun e => hd.2.2.1.2.1 (by rw [e]; rfl)
  have hBc : B ≤ cb := (own_block_lt hS.cnt cb rfl).1
  exact ⟨_, VK, V, K, hd.1, (hS.below (Below.refl wx.heap.size wx).drew (Nat.le_refl _)).setCnt i x, (Below.heap_setCell wx.drew ⟨cb, i, none⟩ _ xb hcx).trans hd.2.1, hd.2.2.1, hd.2.2.2.drew.setCell hBc _⟩
set_option maxRecDepth 100000 in
theorem step_app_row {ops : Array Oper} {o : Oper} {a : Act} {Q' : Act → World → Prop} {Q : Exit → Act → World → Prop} {E : Prop} (w : World) (hg : o.guard = none) (s x : Operand) (ho : o.op = .call { callee := .builtin .append, args := #[s, x], argTypes := #[24, 24] }) (rb ro rc : Nat) (row : List Int)
    (hs : a.eval s = .slice none 0 0) (hx : a.eval x = .slice (some ⟨rb, ro, none⟩) row.length rc) (hr : IntsA w w.heap.size (some ⟨rb, ro, none⟩) row) (hl : 0 < row.length ∧ row.length ≤ 1000)
    (hK : ∀ g cap w', OutI w' w.heap.size (.slice (some ⟨g, 0, none⟩) row.length cap) row → row.length ≤ cap → w.grownBy w' none → g < w'.heap.size → Q' (a.put o.dst (.slice (some ⟨g, 0, none⟩) row.length cap)) w') :
    if Region.wanted o (yielded ops a.tmps) = true then Oper.wp Tryd.prog o a w Q' Q else E := by
  obtain ⟨i0, hi, hz0, hz1, hz2⟩ := info_parts info_int
  refine step_append_lies w hg s x 24 ho w.heap.size 3 i0 (.int .i64 0) 1 8 under_ints hi hz0 hz1 hz2 rfl (by decide) (.slice none 0 0) 0 [] hs (World.ownsRow_nil _ _ _ _) ⟨rb, ro, none⟩ row.length rc (row.map (Value.int .i64)) hx (by simp) ?_ ?_ hl.1 (by unfold maxLen; omega) (by omega) (Nat.le_refl _) w.heap.size rfl (fun g cap w' h1 h2 h3 h4 => ?_)
  · intro j u hj
    obtain ⟨b, off, e, hb, hc⟩ := hr.2 hl.1
    injection e with e
    injection e with e1 e2
    subst e1
    subst e2
    have hjl : j < row.length := by
      rcases Nat.lt_or_ge j row.length with hh | hh
      · exact hh
      · rw [List.getElem?_eq_none (by rw [List.length_map]; exact hh)] at hj; cases hj
    rw [add_none0, hc j hjl]
    rw [List.getElem?_map, List.getElem?_eq_getElem hjl] at hj
    injection hj with hj
    rw [← hj, List.getD_eq_getElem?_getD, List.getElem?_eq_getElem hjl]
    rfl
  · intro u hu
    obtain ⟨p, _, rfl⟩ := List.mem_map.1 hu
    rfl
  · rw [Nat.zero_add] at h1 ⊢
    rw [List.nil_append] at h1
    have hO : OutI w' w.heap.size (.slice (some ⟨g, 0, none⟩) row.length cap) row := h1
    have hcap : row.length ≤ cap := by
      obtain ⟨A, c, e, hc, _⟩ := hO.reads
      injection e with e1 e2 e3
      omega
    exact hK g cap w' hO hcap h2 h4
theorem frame_RU {wd w6 : World} {B mb : Nat} {t : Int} {VC : Value} {ns : List Int} {VK : Value} {cs : List Int} {V : Value} {K : List (MCode × Value)} (hS : RS wd B mb t VC ns VK cs V K) {g cap : Nat} {row : List Int} (hO : OutI w6 wd.heap.size (.slice (some ⟨g, 0, none⟩) row.length cap) row) (hc : row.length ≤ cap) (hl : row.length ≤ 1000) (c : MCode) (hr : c.frame = row) :
    FrameU w6 (RU B mb VC VK V) (c, .slice (some ⟨g, 0, none⟩) c.frame.length cap) := by
  subst hr
  exact frame_new rfl hO hc (by unfold maxLen; omega) fun b hb => ⟨fun e => by have := hS.lt; omega, fun e => by have := (own_block_lt hS.cnt b e).2; omega, fun e => by have := (own_block_lt hS.clm b e).2; omega, fun e => by have := (own_block_lt hS.row b e).2; omega, by have := hS.bm; have := hS.lt; omega⟩
/-- a code is set anew: active, or not -/
theorem StW.coded {w wx : World} {B mb xb : Nat} {t : Int} {m : MMon} {s : WSt} {g n c : Nat} {VC VK : Value} {K : List (MCode × Value)} (hS : RS wx B mb t VC s.ns VK s.cs (.slice (some ⟨g, 0, none⟩) n c) K)
    (hd : K.map Prod.fst = s.ks ∧ wx.heap[xb]? = some (.cells #[.int .i64 m.sig, .int .i64 m.low, .int .i64 m.high, .int .i64 m.up, .int .i64 m.down, .int .i64 m.limit, .int .i64 m.heal] 44 (0, 0)) ∧
      (mb ≠ xb ∧ VC.ownBlock ≠ some xb ∧ VK.ownBlock ≠ some xb ∧ (Value.slice (some ⟨g, 0, none⟩) n c).ownBlock ≠ some xb) ∧ Below B w wx) {ix : Nat} {p : MCode × Value} (hp : K[ix]? = some p) :
    StW w B mb xb t m { s with ks := s.ks.set ix { p.1 with active := false } } (wx.setCell ⟨g, ix * 6 + 5, none⟩ (.bool false)) ∧
    ∀ y : Int, StW w B mb xb t m { s with ks := s.ks.set ix { p.1 with active := true, last := t, count := y } } (((wx.setCell ⟨g, ix * 6 + 5, none⟩ (.bool true)).setCell ⟨g, ix * 6 + 2, none⟩ (.int .i64 t)).setCell ⟨g, ix * 6 + 3, none⟩ (.int .i64 y)) := by
  have hcx : xb ≠ g := fun e => hd.2.2.1.2.2.2 (by rw [e]; rfl)
  have hBg : B ≤ g := (own_block_lt hS.row g rfl).1
  have hix : ix < K.length := (List.getElem?_eq_some_iff.1 hp).1
  refine ⟨⟨VC, VK, _, _, by rw [map_fst_set, hd.1], hS.setCode hp (p' := ({ p.1 with active := false }, p.2)) (j := 5) (by decide) (u := .bool false) rfl ⟨rfl, rfl⟩, (Below.heap_setCell wx ⟨g, ix * 6 + 5, none⟩ _ xb hcx).trans hd.2.1, hd.2.2.1, hd.2.2.2.setCell hBg _⟩, fun y => ?_⟩
  have h1 := hS.setCode hp (p' := ({ p.1 with active := true }, p.2)) (j := 5) (by decide) (u := .bool true) rfl ⟨rfl, rfl⟩
  have h2 := h1.setCode (List.getElem?_set_self hix) (p' := ({ p.1 with active := true, last := t }, p.2)) (j := 2) (by decide) (u := .int .i64 t) rfl ⟨rfl, rfl⟩
  rw [List.set_set] at h2
  have h3 := h2.setCode (List.getElem?_set_self hix) (p' := ({ p.1 with active := true, last := t, count := y }, p.2)) (j := 3) (by decide) (u := .int .i64 y) rfl ⟨rfl, rfl⟩
  rw [List.set_set] at h3
  refine ⟨VC, VK, _, _, by rw [map_fst_set, hd.1], h3, ?_, hd.2.2.1, ((hd.2.2.2.setCell (p := ⟨g, ix * 6 + 5, none⟩) hBg _).setCell (p := ⟨g, ix * 6 + 2, none⟩) hBg _).setCell (p := ⟨g, ix * 6 + 3, none⟩) hBg _⟩
  exact (Below.heap_setCell _ ⟨g, ix * 6 + 3, none⟩ _ xb hcx).trans ((Below.heap_setCell _ ⟨g, ix * 6 + 2, none⟩ _ xb hcx).trans ((Below.heap_setCell wx ⟨g, ix * 6 + 5, none⟩ _ xb hcx).trans hd.2.1))
theorem del2_cells (K : List (MCode × Value)) (ix : Nat) (hix : ix < K.length) : (putMany (K.flatMap cells6) (ix * 6) ((K.drop (ix + 1)).flatMap cells6)).take ((K.length - 1) * 6) = (K.eraseIdx ix).flatMap cells6 := by
  have hn1 : ((K.drop (ix + 1)).flatMap cells6).length = (K.length - (ix + 1)) * 6 := by rw [cells6_len, List.length_drop]
  have hl := cells6_len K
  rw [putMany_eq _ _ _ (by rw [hn1, hl]; omega), take_cells K ix (by omega), List.take_left' (by rw [List.length_append, cells6_len, List.length_take, hn1]; omega), List.eraseIdx_eq_take_drop_succ, List.flatMap_append]
def DelF (w : World) (base g cap n ix : Nat) (K : List (MCode × Value)) (A : Addr) (news : List Value) : Prop :=
  (if cap = ix + 1 then (some ⟨g, 0, none⟩ : Option Addr) else some ⟨g, (ix + 1) * 6, none⟩) = some A ∧ news.length = (n - (ix + 1)) * 6 ∧ (∀ t u, news[t]? = some u → w.cell? (A.add t) = some u) ∧ (∀ u ∈ news, u.oneCell' = true) ∧
  (∀ t, t < news.length → (w.cell? ⟨g, 0 + ix * 6 + t, none⟩).isSome = true ∧ w.frozen? ⟨g, 0 + ix * 6 + t, none⟩ = false) ∧ RowC (w.setCells g (0 + ix * 6) news) base (.slice (some ⟨g, 0, none⟩) (n - 1) cap) (K.eraseIdx ix) ∧ w.grownBy (w.setCells g (0 + ix * 6) news) (some g)
theorem del_facts {w : World} {base g cap n ix : Nat} {K : List (MCode × Value)} (h : RowC w base (.slice (some ⟨g, 0, none⟩) n cap) K) (hn : n = K.length) (hix : ix < n) (hone : ∀ p ∈ K, p.2.oneCell' = true) : ∃ A news, DelF w base g cap n ix K A news := by
  subst hn
  have hr : w.ownsRow base 46 6 (.slice (some ⟨g, 0, none⟩) K.length cap) K.length (K.flatMap cells6) := h
  have hcap : K.length ≤ cap := by
    obtain ⟨A, cap', e, hc⟩ := h.lenV
    injection e with e1 e2 e3
    omega
  obtain ⟨news, hnews⟩ : ∃ news, news = (K.drop (ix + 1)).flatMap cells6 := ⟨_, rfl⟩
  have hnl : news.length = (K.length - (ix + 1)) * 6 := by rw [hnews, cells6_len, List.length_drop]
  obtain ⟨A, hA, hsrc⟩ : ∃ A : Addr, (if cap = ix + 1 then (some ⟨g, 0, none⟩ : Option Addr) else some ⟨g, (ix + 1) * 6, none⟩) = some A ∧ (∀ t u, news[t]? = some u → w.cell? (A.add t) = some u) := by
    by_cases hc : cap = ix + 1
    · refine ⟨⟨g, 0, none⟩, by simp [hc], fun t u hu => ?_⟩
      have h0 : news.length = 0 := by rw [hnl]; omega
      rw [List.length_eq_zero_iff.1 h0] at hu
      simp at hu
    · refine ⟨⟨g, (ix + 1) * 6, none⟩, by simp [hc], fun t u hu => ?_⟩
      have ht : t < news.length := (List.getElem?_eq_some_iff.1 hu).1
      rw [Addr.add_lit]
      rw [hnews, drop_cells K (ix + 1) t (by omega)] at hu
      exact (World.ownsRow.cellAt hr ((ix + 1) * 6 + t) (by omega)).trans hu
  obtain ⟨o1, g1⟩ := own_setCells news (0 + ix * 6) w _ hr
  have o3 := own_short o1 (show K.length - 1 ≤ K.length by omega)
  rw [hnews, Nat.zero_add, del2_cells K ix hix, ← hnews] at o3
  refine ⟨A, news, hA, hnl, hsrc, ?_, fun t ht => ⟨?_, World.ownsRow.frozenAt hr _⟩, ?_, g1⟩
  · rw [hnews]
    exact one_cells (fun q hq => hone q (List.mem_of_mem_drop hq))
  · rw [Nat.zero_add, World.ownsRow.cellAt hr (ix * 6 + t) (by omega), List.getElem?_eq_getElem (by rw [cells6_len]; omega)]
    rfl
  · unfold RowC
    rw [List.length_eraseIdx_of_lt hix, Nat.zero_add]
    exact o3
theorem step_put {ops : Array Oper} {o : Oper} {a : Act} {Q' : Act → World → Prop} {Q : Exit → Act → World → Prop} {E : Prop} {w : World} {B mb : Nat} {t : Int} {VC : Value} {ns : List Int} {VK : Value} {cs : List Int} {V : Value} {K : List (MCode × Value)} (hg : o.guard = none) (x y : Operand) (ho : o.op = .call { callee := .value (.func 116), args := #[x, y], argTypes := #[142, 46] })
    (hx : a.eval x = .pointer (some ⟨mb, 0, none⟩)) (c : MCode) (Af : Option Addr) (cf : Nat) (hy : a.eval y = .agg #[.int .i64 c.mon, .int .i64 c.first, .int .i64 c.last, .int .i64 c.count, .slice Af c.frame.length cf, .bool c.active])
    (h : RS w B mb t VC ns VK cs V K) (hBw : B ≤ w.heap.size) (hK : K.length ≤ 1000) (hp : FrameU w (RU B mb VC VK V) (c, .slice Af c.frame.length cf)) {ix : Nat} (hf : FindP (K.map Prod.fst) c.mon ix false) (ha : AscC (K.map Prod.fst))
    (hQ : ∀ w', PutC w B mb t VC ns VK cs V (K.take ix ++ (c, .slice Af c.frame.length cf) :: K.drop ix) w' → Q' (a.put o.dst (.tuple #[])) w') :
    if Region.wanted o (yielded ops a.tmps) = true then Oper.wp Tryd.prog o a w Q' Q else E := by
  rw [if_pos (by simp [Region.wanted, hg])]
  have hC := put_any h hBw hK c Af cf hp hf ha
  have hf : a.eval (.func 116) = .func (.func 116) #[] #[] := rfl
  unfold Oper.wp execOp
  simp only [ho, resolve, invoke, Sem.run_bind, List.map_toArray, List.map_cons, List.map_nil, hx, hy, hf]
  simp [go_sem]
  refine hC.mono ?_
  rintro e w2 ⟨rfl, hP⟩
  exact hQ w2 hP
set_option maxRecDepth 100000 in
set_option maxHeartbeats 60000000 in
theorem step_any {w : World} {B mb : Nat} {t : Int} {s : WSt} {A : Option Addr} (lc : Nat) {l : List MMon} {R : Option Addr} (rc : Nat) {row : List Int} (hT : RT w B mb t s) (hs : SOk l s) (hmb : monsB l = true) (hlaw : lawB l row = true) {i : Nat} (hi : i < l.length) (_htk : 0 ≤ t ∧ t ≤ 1000000)
    (h : MonsA w B A l) (hr : IntsA w B R row) :
    Calls Tryd.prog 93 #[.slice A l.length lc, .int .i64 i, .pointer (some ⟨mb, 0, none⟩), .slice R row.length rc] w fun e w' => e = .returned (.tuple #[]) ∧ RT w' B mb t (stepOf l t row i s) ∧ Below B w w' := by
  obtain ⟨VC, VK, V, K, hKs, hS⟩ := hT
  have hl20 := monsB_len hmb
  have hBw : B ≤ w.heap.size := by have := hS.bm; have := hS.lt; omega
  obtain ⟨m, b, off, ht, hAe, hblt, t0, t1, t2, t3, t4, t5, t6⟩ := h.at_ hi
  subst hAe
  have hmd : l.getD i dMon = m := by rw [List.getD_eq_getElem?_getD, ht]; rfl
  have hmbd := monB_bounds (mon_ok hmb ht).1
  have hsl : m.sig < row.length := law_sig hlaw ht
  obtain ⟨sg, hsg⟩ : ∃ n : Nat, m.sig = n := ⟨m.sig.toNat, by omega⟩
  have hsn : m.sig.toNat = sg := by omega
  obtain ⟨br, or_, hRe, hbr, r0⟩ := hr.at_ (show sg < row.length by omega)
  subst hRe
  obtain ⟨v, hv⟩ : ∃ v, row.getD sg 0 = v := ⟨_, rfl⟩
  rw [hv] at r0
  obtain ⟨n, hn⟩ : ∃ n, s.ns.getD i 0 = n := ⟨_, rfl⟩
  have hnb : 0 ≤ n ∧ n ≤ 1000 := by have := hs.lim i hi; rw [hmd, hn] at this; omega
  obtain ⟨cb, cc, hVC, hcb, hcl⟩ := hS.cnt.form (show 0 < s.ns.length by rw [hs.ns]; omega)
  subst hVC
  obtain ⟨w1, hw1⟩ : ∃ w1, w1 = w.alloc (.cells #[.int .i64 m.sig, .int .i64 m.low, .int .i64 m.high, .int .i64 m.up, .int .i64 m.down, .int .i64 m.limit, .int .i64 m.heal] 44) := ⟨_, rfl⟩
  have hb1 : Below w.heap.size w w1 := by rw [hw1]; exact (Below.refl _ _).alloc (Nat.le_refl _) _
  have hs1 : w1.heap.size = w.heap.size + 1 := by rw [hw1]; simp
  have hh1 : w1.heap[w.heap.size]? = some (.cells #[.int .i64 m.sig, .int .i64 m.low, .int .i64 m.high, .int .i64 m.up, .int .i64 m.down, .int .i64 m.limit, .int .i64 m.heal] 44 (0, 0)) := by rw [hw1]; exact heap_alloc_new w _
  have hS1 := hS.below hb1 (Nat.le_refl _)
  have x0 := row_cell hh1 0
  have x1 := row_cell hh1 1
  have x2 := row_cell hh1 2
  have x3 := row_cell hh1 3
  have x4 := row_cell hh1 4
  have x5 := row_cell hh1 5
  simp only [List.getElem?_toArray, List.getElem?_cons_succ, List.getElem?_cons_zero] at x0 x1 x2 x3 x4 x5
  have g1 := hS1.g 1
  simp only [List.getElem?_toArray, List.getElem?_cons_succ, List.getElem?_cons_zero] at g1
  obtain ⟨n0, nf⟩ := hS1.cnt.cellI (show i < s.ns.length by rw [hs.ns]; exact hi)
  rw [hn] at n0
  have r1 := (bcell hb1 br (or_ + sg) (by omega)).trans r0
  rw [hsg] at x0
  have en1 : (i : Int) < s.ns.length := by have := hs.ns; omega
  have hwf := hw1.symm
  rw [hsg] at hwf
  have HDD := Lib.hid (show K.map Prod.fst = s.ks ∧ w1.heap[w.heap.size]? = some (.cells #[.int .i64 m.sig, .int .i64 m.low, .int .i64 m.high, .int .i64 m.up, .int .i64 m.down, .int .i64 m.limit, .int .i64 m.heal] 44 (0, 0)) ∧
      (mb ≠ w.heap.size ∧ (Value.slice (some ⟨cb, 0, none⟩) s.ns.length cc).ownBlock ≠ some w.heap.size ∧ VK.ownBlock ≠ some w.heap.size ∧ V.ownBlock ≠ some w.heap.size) ∧ Below B w w1 from
    ⟨hKs, hh1, ⟨by have := hS.lt; omega, fun e => by have := (own_block_lt hS.cnt _ e).2; omega, fun e => by have := (own_block_lt hS.clm _ e).2; omega, fun e => by have := (own_block_lt hS.row _ e).2; omega⟩, hb1.mono hBw⟩)
  have HS1 := Lib.hid hS1
  have HSO := Lib.hid hs
  have HMD := Lib.hid hmd
  have HV := Lib.hid hv
  have HN := Lib.hid hn
  have HSG := Lib.hid hsn
  have HNS := Lib.hid hs.ns
  obtain ⟨y1, hy1⟩ : ∃ y, decide (v < m.low) = y := ⟨_, rfl⟩
  obtain ⟨y2, hy2⟩ : ∃ y, decide (m.high < v) = y := ⟨_, rfl⟩
  have HIN : Hid (inB v m.low m.high = (!y1 && !y2)) := by
    show _ = _
    rw [← hy1, ← hy2]
    unfold inB
    rw [Bool.eq_iff_iff]
    simp only [Bool.and_eq_true, Bool.not_eq_true', decide_eq_false_iff_not, decide_eq_true_eq]
    omega
  have hrl : 0 < row.length ∧ row.length ≤ 1000 := by
    unfold lawB inB at hlaw
    simp only [Bool.and_eq_true, decide_eq_true_eq] at hlaw
    omega
  clear hS hS1 hs hmd hv hn hsn hw1 hh1 hKs hlaw ht hb1
  go_enter Tryd.func93, Tryd.ntmps93
  go_upto_region 2 with fail
  go_cut [30] (fun s30 wx => s30 = .bool (y1 || y2) ∧ wx = w1)
  case first =>
    rcases y1 with _ | _
    · rcases y2 with _ | _
      all_goals
        go_wp2_with fail
        go_meet
        exact ⟨rfl, rfl⟩
    · go_wp2_with fail
      go_meet
      exact ⟨rfl, rfl⟩
  case rest =>
    obtain ⟨rfl, rfl⟩ := hcut
    go_upto_if 30 with fail
    go_cut [31] (fun _ wx => StW w B mb w.heap.size t m (cntOf l row i s) wx)
    case first =>
      rcases hyy : (y1 || y2)
      · go_wp2_with fail
        refine wp_region_quiet_tail 17 (by kernel_rfl) (by kernel_rfl) ?_
        simp only [List.take_succ_cons, List.take_zero, List.drop_succ_cons, List.drop_zero]
        repeat (go_big_quiet_step (fail))
        refine wpQuiet_nil ?_
        have hc : max 0 (n - m.down) = cntS m v n := by unfold cntS; rw [HIN.out, ← Bool.not_or, hyy]; (try simp only [Bool.not_false, if_true]); omega
        have HFF := Lib.hid (StW.counted HS1.out HDD.out i hc)
        go_wp2_with fail
        go_meet
        unfold cntOf
        rw [HMD.out, HSG.out, HV.out, HN.out]
        exact HFF.out
      · go_wp2_with fail
        refine wp_region_quiet_tail 19 (by kernel_rfl) (by kernel_rfl) ?_
        simp only [List.take_succ_cons, List.take_zero, List.drop_succ_cons, List.drop_zero]
        repeat (go_big_quiet_step (fail))
        refine wpQuiet_nil ?_
        have hc : min m.limit (n + m.up) = cntS m v n := by unfold cntS; rw [HIN.out, ← Bool.not_or, hyy]; (try simp only [Bool.not_true, Bool.false_eq_true, if_false]); omega
        have HFF := Lib.hid (StW.counted HS1.out HDD.out i hc)
        go_wp2_with fail
        go_meet
        unfold cntOf
        rw [HMD.out, HSG.out, HV.out, HN.out]
        exact HFF.out
    case rest =>
      have hSO := HSO.out.cnted hmb hi row
      obtain ⟨s1, hs1e⟩ : ∃ s1, cntOf l row i s = s1 := ⟨_, rfl⟩
      rw [hs1e] at hSO hcut
      have HS1E := Lib.hid hs1e
      clear hs1e
      clear HS1 HDD x0 x1 x2 x3 x4 x5 g1 n0 nf r1 hwf
      obtain ⟨VC, VK, V, K, hKs, hS, hxh, hne, hBc⟩ := hcut
      have HA := Lib.hid (hSO.ascC hl20)
      have hfew := hSO.few hl20
      have hKl : K.length = s1.ks.length := by rw [← hKs, List.length_map]
      have hK1 : K.length ≤ 1000000 := by omega
      obtain ⟨Av, cv, hVe, hcv, hCA⟩ := hS.codes hK1
      rw [hKs] at hCA
      rw [hKl] at hVe hcv
      subst hVe
      obtain ⟨ix, hix⟩ : ∃ ix, findS s1.ks (i : Int) = ix := ⟨_, rfl⟩
      obtain ⟨has, hhas⟩ : ∃ has, hasS s1.ks (i : Int) = has := ⟨_, rfl⟩
      have hf := find_S HA.out (i : Int)
      rw [hix, hhas] at hf
      have hC9 := index_any t VC VK Av cv s1.ks i wc hCA HA.out hf
      have g0 := hS.g 0
      have g1 := hS.g 1
      have g2 := hS.g 2
      have g3 := hS.g 3
      simp only [List.getElem?_toArray, List.getElem?_cons_succ, List.getElem?_cons_zero] at g0 g1 g2 g3
      have HC9 := Lib.hid hC9
      have HF := Lib.hid hf
      have HSO := Lib.hid hSO
      have HS := Lib.hid hS
      have HXH := Lib.hid hxh
      have HNE := Lib.hid hne
      have HBC := Lib.hid hBc
      have HKS := Lib.hid hKs
      have HIX := Lib.hid hix
      have HHAS := Lib.hid hhas
      have HMB := Lib.hid h
      have HRO := Lib.hid hr
      clear hC9 hf hSO hS hxh hne hBc hKs hix hhas hCA h hr t0 t1 t2 t3 t4 t5 t6 r0
      go_upto_block 0 with (go_at_call 74; refine HC9.out.mono ?_; rintro e w3 ⟨rfl, hb3⟩)
      have hS3 := HS.out.below hb3 (Nat.le_refl _)
      have hxh3 := (hb3.block w.heap.size (lt_of_block HXH.out)).trans HXH.out
      have hBc3 : Below B w w3 := HBC.out.trans (hb3.mono (by have := HS.out.bm; have := HS.out.lt; omega))
      have HS3 := Lib.hid hS3
      have HXH3 := Lib.hid hxh3
      have HBC3 := Lib.hid hBc3
      clear HS HXH HBC HC9 hb3 g0 g1 g2 g3 hS3 hxh3 hBc3
      go_cut [72] (fun _ wx => StW w B mb w.heap.size t m (codeOf l t row i s1) wx)
      case first =>
        as_aux_lemma =>
          have HX3 : Hid (StW w B mb w.heap.size t m s1 w3) := ⟨VC, VK, _, K, HKS.out, HS3.out, HXH3.out, HNE.out, HBC3.out⟩
          have hnl : i < s1.ns.length := by rw [HSO.out.ns]; exact hi
          obtain ⟨cb, cc, hVC, hcb, hcl⟩ := HS3.out.cnt.form (show 0 < s1.ns.length by omega)
          subst hVC
          obtain ⟨n1, hn1⟩ : ∃ n1, s1.ns.getD i 0 = n1 := ⟨_, rfl⟩
          obtain ⟨k0, kf⟩ := HS3.out.cnt.cellI hnl
          rw [hn1] at k0
          have g0 := HS3.out.g 0
          have g1 := HS3.out.g 1
          have g3 := HS3.out.g 3
          have x5 := row_cell HXH3.out 5
          simp only [List.getElem?_toArray, List.getElem?_cons_succ, List.getElem?_cons_zero] at g0 g1 g3 x5
          have en2 : (i : Int) < s1.ns.length := by omega
          have hCO : codeOf l t row i s1 = (if n1 = m.limit then (if has = true then (if (s1.ks.getD ix dCode).active = true then s1 else { s1 with ks := s1.ks.set ix { s1.ks.getD ix dCode with active := true, last := t, count := min ((s1.ks.getD ix dCode).count + 1) 1000 } })
              else { s1 with ks := s1.ks.take ix ++ ⟨i, t, t, 1, row, true⟩ :: s1.ks.drop ix }) else if n1 = 0 ∧ has = true then { s1 with ks := s1.ks.set ix { s1.ks.getD ix dCode with active := false } } else s1) := by
            unfold codeOf
            rw [hn1, HMD.out, HIX.out, HHAS.out]
          have HCO := Lib.hid hCO
          clear hCO
          by_cases h1 : n1 = m.limit
          · have hz1 : (n1 == m.limit) = true := by rw [beq_iff_eq]; exact h1
            have H1 := Lib.hid h1
            clear h1
            rcases has with _ | _
            · simp only [show idxAt ix false = (-1 : Int) from rfl]
              have HC2 : Hid (codeOf l t row i s1 = { s1 with ks := s1.ks.take ix ++ ⟨i, t, t, 1, row, true⟩ :: s1.ks.drop ix }) := by
                show _ = _
                rw [HCO.out, if_pos H1.out]; rfl
              go_wp2_with fail
              go_quiet (fail)
              go_wp2_with fail
              have hS5 := HS3.out.below (w' := w3.drewN nq) (B' := w3.heap.size) ⟨rfl, rfl, rfl, Nat.le_refl _, fun _ _ => rfl⟩ (Nat.le_refl _)
              have hxh5 : (w3.drewN nq).heap[w.heap.size]? = _ := HXH3.out
              have hBc5 : Below B w (w3.drewN nq) := ⟨HBC3.out.os, HBC3.out.tape, HBC3.out.output, HBC3.out.size, HBC3.out.block⟩
              have HS5 := Lib.hid hS5
              have HXH5 := Lib.hid hxh5
              have HBC5 := Lib.hid hBc5
              clear HS3 HXH3 HBC3 k0 kf g0 g1 g3 x5 hS5 hxh5 hBc5
              generalize w3.drewN nq = w5 at *
              have hK1000 : K.length ≤ 1000 := by omega
              have hBw5 : B ≤ w5.heap.size := by have := HBC5.out.size; omega
              have hBd5 : Below B w w5.drew := HBC5.out.drew
              have hSd := HS5.out.below (Below.refl w5.heap.size w5).drew (Nat.le_refl _)
              have hRd : IntsA w5.drew w5.drew.heap.size (some ⟨br, or_, none⟩) row := (HRO.out.keep hBd5).more hBw5
              have e0 := hSd.g 0
              simp only [List.getElem?_toArray, List.getElem?_cons_zero] at e0
              have HSD := Lib.hid hSd
              have HRD := Lib.hid hRd
              have HBD := Lib.hid hBd5
              clear hSd hRd hBd5
              refine wp_region_held_drew (S := fun w' => w'.cell? ⟨mb, 0, none⟩ = some (.int .i64 t)) (by kernel_rfl) e0 (fun hHeld => ?_)
              refine wpAnyH_take (i := 0) (v := ?_) (by simp only [List.getElem?_toArray, List.getElem?_cons_zero]; rfl) (by kernel_rfl) (by kernel_rfl) (by kernel_rfl) (by exact fun _ _ _ h => h) (Or.inl ⟨by rfl, ?_⟩) (by assumption) ?_
              rotate_left 1
              · (intro w hSw; (try dsimp only at hSw); go_simp <;> with_reducible rfl)
              try simp only [Act.put, List.setIfInBounds_toArray, List.set_cons_zero, List.set_cons_succ]
              refine wpAnyH_take (i := 1) (v := ?_) (by simp only [List.getElem?_toArray, List.getElem?_cons_succ, List.getElem?_cons_zero]; rfl) (by kernel_rfl) (by kernel_rfl) (by kernel_rfl) (by exact fun _ _ _ h => h) (Or.inl ⟨by rfl, ?_⟩) (by assumption) ?_
              rotate_left 1
              · (intro w hSw; (try dsimp only at hSw); go_simp <;> with_reducible rfl)
              try simp only [Act.put, List.setIfInBounds_toArray, List.set_cons_zero, List.set_cons_succ]
              refine wpAnyH_take (i := 2) (v := ?_) (by simp only [List.getElem?_toArray, List.getElem?_cons_succ, List.getElem?_cons_zero]; rfl) (by kernel_rfl) (by kernel_rfl) (by kernel_rfl) (by exact fun _ _ _ h => h) (Or.inl ⟨by rfl, ?_⟩) (by assumption) ?_
              rotate_left 1
              · (intro w hSw; (try dsimp only at hSw); go_simp <;> with_reducible rfl)
              try simp only [Act.put, List.setIfInBounds_toArray, List.set_cons_zero, List.set_cons_succ]
              refine wpAnyH_take (i := 3) (v := ?_) (by simp only [List.getElem?_toArray, List.getElem?_cons_succ, List.getElem?_cons_zero]; rfl) (by kernel_rfl) (by kernel_rfl) (by kernel_rfl) (by exact fun _ _ _ h => h) (Or.inl ⟨by rfl, ?_⟩) (by assumption) ?_
              rotate_left 1
              · (intro w hSw; (try dsimp only at hSw); go_simp <;> with_reducible rfl)
              try simp only [Act.put, List.setIfInBounds_toArray, List.set_cons_zero, List.set_cons_succ]
              refine wpAnyH_take (i := 4) (v := ?_) (by simp only [List.getElem?_toArray, List.getElem?_cons_succ, List.getElem?_cons_zero]; rfl) (by kernel_rfl) (by kernel_rfl) (by kernel_rfl) (by exact fun _ _ _ h => h) (Or.inl ⟨by rfl, ?_⟩) (by assumption) ?_
              rotate_left 1
              · (intro w hSw; (try dsimp only at hSw); go_simp <;> with_reducible rfl)
              try simp only [Act.put, List.setIfInBounds_toArray, List.set_cons_zero, List.set_cons_succ]
              refine wpAnyH_take (i := 5) (v := ?_) (by simp only [List.getElem?_toArray, List.getElem?_cons_succ, List.getElem?_cons_zero]; rfl) (by kernel_rfl) (by kernel_rfl) (by kernel_rfl) (by exact fun _ _ _ h => h) (Or.inl ⟨by rfl, ?_⟩) (by assumption) ?_
              rotate_left 1
              · (intro w hSw; (try dsimp only at hSw); go_simp <;> with_reducible rfl)
              try simp only [Act.put, List.setIfInBounds_toArray, List.set_cons_zero, List.set_cons_succ]
              refine wpAnyH_take (i := 6) (v := ?_) (by simp only [List.getElem?_toArray, List.getElem?_cons_succ, List.getElem?_cons_zero]; rfl) (by kernel_rfl) (by kernel_rfl) (by kernel_rfl) (by exact fun _ _ _ h => h) (Or.inl ⟨by rfl, ?_⟩) (by assumption) ?_
              rotate_left 1
              · (intro w hSw; (try dsimp only at hSw); go_simp <;> with_reducible rfl)
              try simp only [Act.put, List.setIfInBounds_toArray, List.set_cons_zero, List.set_cons_succ]
              refine wpAnyH_take (i := 7) (v := ?_) (by simp only [List.getElem?_toArray, List.getElem?_cons_succ, List.getElem?_cons_zero]; rfl) (by kernel_rfl) (by kernel_rfl) (by kernel_rfl) (by exact fun _ _ _ h => h) (Or.inl ⟨by rfl, ?_⟩) (by assumption) ?_
              rotate_left 1
              · (intro w hSw; (try dsimp only at hSw); go_simp <;> with_reducible rfl)
              try simp only [Act.put, List.setIfInBounds_toArray, List.set_cons_zero, List.set_cons_succ]
              refine wpAnyH_take (i := 8) (v := ?_) (by simp only [List.getElem?_toArray, List.getElem?_cons_succ, List.getElem?_cons_zero]; rfl) (by kernel_rfl) (by kernel_rfl) (by kernel_rfl) (by exact fun _ _ _ h => h) (Or.inl ⟨by rfl, ?_⟩) (by assumption) ?_
              rotate_left 1
              · (intro w hSw; (try dsimp only at hSw); go_simp <;> with_reducible rfl)
              try simp only [Act.put, List.setIfInBounds_toArray, List.set_cons_zero, List.set_cons_succ]
              refine wpAnyH_take (i := 9) (v := ?_) (by simp only [List.getElem?_toArray, List.getElem?_cons_succ, List.getElem?_cons_zero]; rfl) (by kernel_rfl) (by kernel_rfl) (by kernel_rfl) (by exact fun _ _ _ h => h) (Or.inl ⟨by rfl, ?_⟩) (by assumption) ?_
              rotate_left 1
              · (intro w hSw; (try dsimp only at hSw); go_simp <;> with_reducible rfl)
              try simp only [Act.put, List.setIfInBounds_toArray, List.set_cons_zero, List.set_cons_succ]
              refine wpAnyH_take (i := 10) (v := ?_) (by simp only [List.getElem?_toArray, List.getElem?_cons_succ, List.getElem?_cons_zero]; rfl) (by kernel_rfl) (by kernel_rfl) (by kernel_rfl) (by exact fun _ _ _ h => h) (Or.inl ⟨by rfl, ?_⟩) (by assumption) ?_
              rotate_left 1
              · (intro w hSw; (try dsimp only at hSw); go_simp <;> with_reducible rfl)
              try simp only [Act.put, List.setIfInBounds_toArray, List.set_cons_zero, List.set_cons_succ]
              refine wpAnyH_ready (rs := [11]) (by kernel_rfl) (by simp) ?_
              refine AllReadyH.cons (by simp only [List.getElem?_toArray, List.getElem?_cons_succ, List.getElem?_cons_zero]; rfl) (fun KQ hK => ?_) ?_
              · skip
                refine step_app_row _ (by rfl) _ _ (by rfl) br or_ rc row (by rfl) (by rfl) HRD.out hrl ?_
                intro g6 c6 w6 hO6 hc6 hg6 hl6
                have hS6 := HSD.out.below ((Below.refl w5.drew.heap.size w5.drew).grown hg6 (Nat.le_refl _) (fun k hk => by cases hk)) (Nat.le_refl _)
                have e6 := hS6.g 0
                simp only [List.getElem?_toArray, List.getElem?_cons_zero] at e6
                have HO6 := Lib.hid hO6
                have HC6 := Lib.hid hc6
                have HG6 := Lib.hid hg6
                have HS6 := Lib.hid hS6
                have HFU := Lib.hid (frame_RU HSD.out HO6.out HC6.out hrl.2 ⟨i, t, t, 1, row, true⟩ rfl)
                clear hO6 hc6 hg6 hS6
                refine hK.out _ _ ?_ (fun hHeld => ?_)
                · exact e6
                clear hK KQ
                try simp only [Act.put, List.setIfInBounds_toArray, List.set_cons_zero, List.set_cons_succ]
                refine wpAnyH_take (i := 12) (v := .agg #[.int .i64 i, .int .i64 t, .int .i64 t, .int .i64 1, .slice (some ⟨g6, 0, none⟩) row.length c6, .bool true]) (by simp only [List.getElem?_toArray, List.getElem?_cons_succ, List.getElem?_cons_zero]; rfl) (by kernel_rfl) (by kernel_rfl) (by kernel_rfl) (by exact fun _ _ _ h => h) (yields_code (by rfl) (.tmp 88) (.tmp 92) (.tmp 96) (.const (.int .i64 1)) (.tmp 98) (.const (.bool true)) (by rfl) i t t 1 (some ⟨g6, 0, none⟩) row.length c6 true (by rfl) (by rfl) (by rfl) (by rfl) (by rfl) (by rfl)) (by assumption) ?_
                try simp only [Act.put, List.setIfInBounds_toArray, List.set_cons_zero, List.set_cons_succ]
                refine wpAnyH_ready (rs := [13]) (by kernel_rfl) (by simp) ?_
                refine AllReadyH.cons (by simp only [List.getElem?_toArray, List.getElem?_cons_succ, List.getElem?_cons_zero]; rfl) (fun KQ hK => ?_) ?_
                · skip
                  refine step_put (by rfl) _ _ (by rfl) (by rfl) ⟨i, t, t, 1, row, true⟩ (some ⟨g6, 0, none⟩) c6 (by rfl) HS6.out (Nat.le_trans HS6.out.bm (Nat.le_of_lt HS6.out.lt)) hK1000 HFU.out (by rw [HKS.out]; exact HF.out) (by rw [HKS.out]; exact HA.out) ?_
                  intro w7 hP
                  have HP := Lib.hid hP
                  have e7 : w7.cell? ⟨mb, 0, none⟩ = some (.int .i64 t) := (by obtain ⟨⟨g9, c9, h9, _⟩, _⟩ := hP; have := h9.g 0; simpa using this)
                  clear hP
                  refine hK.out _ _ ?_ (fun hHeld => ?_)
                  · exact e7
                  clear hK KQ
                  try simp only [Act.put, List.setIfInBounds_toArray, List.set_cons_zero, List.set_cons_succ]
                  refine wpAnyH_done (by kernel_rfl) ?_ _
                  go_wp2_with fail
                  go_meet
                  rw [HC2.out]
                  obtain ⟨⟨g9, c9, h9, hat9⟩, hkb9, hbel9⟩ := HP.out
                  have hxs : w.heap.size < w6.heap.size := by have := HG6.out.size; have := lt_of_block HXH5.out; have e : w5.drew.heap.size = w5.heap.size := rfl; omega
                  refine ⟨_, VK, _, _, ?_, h9, (hkb9 w.heap.size hxs (fun e => HNE.out.1 e.symm) HNE.out.2.2.2).trans ((HG6.out.block w.heap.size (by have := lt_of_block HXH5.out; exact this) (by simp)).trans HXH5.out), ⟨HNE.out.1, HNE.out.2.1, HNE.out.2.2.1, fun e => ?_⟩, ?_⟩
                  · rw [List.map_append, List.map_cons, List.map_take, List.map_drop, HKS.out]
                  · have e : some g9 = some w.heap.size := e
                    injection e with e
                    rcases hat9 with h9 | h9
                    · exact HNE.out.2.2.2 (by rw [h9, e])
                    · omega
                  · exact HBD.out.trans (((Below.refl w5.drew.heap.size w5.drew).grown HG6.out (Nat.le_refl _) (fun k hk => by cases hk)).mono hBw5 |>.trans hbel9)
                exact AllReadyH.nil
              exact AllReadyH.nil
            · simp only [show idxAt ix true = (ix : Int) from rfl]
              have hz0 : (n1 == 0) = false := by rw [beq_eq_false_iff_ne, H1.out]; omega
              have hixl : ix < s1.ks.length := (HF.out.2.2.2.1 rfl).1
              have hixK : ix < K.length := by omega
              obtain ⟨g, cap, hVg, hgB, _⟩ := HS3.out.form (show 0 < K.length by omega)
              injection hVg with hAv hq1 hq2
              clear hq1 hq2
              subst hAv
              obtain ⟨p, hp⟩ : ∃ p, K[ix]? = some p := ⟨K[ix], List.getElem?_eq_getElem hixK⟩
              have hpc : s1.ks.getD ix dCode = p.1 := by rw [← HKS.out, List.getD_eq_getElem?_getD, List.getElem?_map, hp]; rfl
              have hpok := (HSO.out.ok p.1 (by rw [← hpc]; exact getD_mem hixl)).2
              obtain ⟨c5, cf5⟩ := HS3.out.codeCell hp 5 (by decide)
              obtain ⟨c2, cf2⟩ := HS3.out.codeCell hp 2 (by decide)
              obtain ⟨c3, cf3⟩ := HS3.out.codeCell hp 3 (by decide)
              simp only [cells6, List.getElem?_cons_succ, List.getElem?_cons_zero] at c5 c2 c3
              have hx0 : decide ((ix : Int) < 0) = false := decide_eq_false (by omega)
              have hx1 : decide (0 ≤ (ix : Int)) = true := decide_eq_true (by omega)
              have hel : (ix : Int) < s1.ks.length := by omega
              have hDD : ∀ nq, StW w B mb w.heap.size t m { s1 with ks := s1.ks.set ix { p.1 with active := false } } ((w3.drewN nq).setCell ⟨g, ix * 6 + 5, none⟩ (.bool false)) ∧ ∀ y : Int, StW w B mb w.heap.size t m { s1 with ks := s1.ks.set ix { p.1 with active := true, last := t, count := y } } ((((w3.drewN nq).setCell ⟨g, ix * 6 + 5, none⟩ (.bool true)).setCell ⟨g, ix * 6 + 2, none⟩ (.int .i64 t)).setCell ⟨g, ix * 6 + 3, none⟩ (.int .i64 y)) := fun nq =>
                StW.coded (HS3.out.below (w' := w3.drewN nq) (B' := w3.heap.size) ⟨rfl, rfl, rfl, Nat.le_refl _, fun _ _ => rfl⟩ (Nat.le_refl _)) ⟨HKS.out, HXH3.out, HNE.out, ⟨HBC3.out.os, HBC3.out.tape, HBC3.out.output, HBC3.out.size, HBC3.out.block⟩⟩ hp
              have HDD := Lib.hid hDD
              have HPC := Lib.hid hpc
              clear hDD hpc hp HS3 HXH3 HBC3
              rcases hact : p.1.active
              · rw [hact] at c5
                have HC2 : Hid (codeOf l t row i s1 = { s1 with ks := s1.ks.set ix { p.1 with active := true, last := t, count := min (p.1.count + 1) 1000 } }) := by
                  show _ = _
                  rw [HCO.out, if_pos H1.out, if_pos rfl, HPC.out, if_neg (by rw [hact]; decide)]
                clear hact
                go_wp2_with fail
                go_quiet (fail)
                go_wp2_with fail
                go_quiet (fail)
                go_wp2_with fail
                go_meet
                rw [HC2.out, show min (p.1.count + 1) 1000 = min 1000 (p.1.count + 1) by omega]
                exact (HDD.out _).2 _
              · rw [hact] at c5
                have HC2 : Hid (codeOf l t row i s1 = s1) := by
                  show _ = _
                  rw [HCO.out, if_pos H1.out, if_pos rfl, HPC.out, if_pos hact]
                clear hact
                go_wp2_with fail
                go_quiet (fail)
                go_wp2_with fail
                go_quiet (fail)
                go_wp2_with fail
                go_meet
                rw [HC2.out]
                exact HX3.out.drewN _
          · have hz1 : (n1 == m.limit) = false := by rw [beq_eq_false_iff_ne]; exact h1
            have H1 := Lib.hid h1
            clear h1
            rcases has with _ | _
            · simp only [show idxAt ix false = (-1 : Int) from rfl]
              have HC2 : Hid (codeOf l t row i s1 = s1) := by
                show _ = _
                rw [HCO.out, if_neg H1.out, if_neg (by simp)]
              obtain ⟨z0, hz0⟩ : ∃ z, (n1 == 0) = z := ⟨_, rfl⟩
              rcases z0 with _ | _
              all_goals
                go_wp2_with fail
                go_quiet (fail)
                go_wp2_with fail
                go_quiet (fail)
                go_wp2_with fail
                go_meet
                rw [HC2.out]
                exact HX3.out.drewN _
            · simp only [show idxAt ix true = (ix : Int) from rfl]
              have hixl : ix < s1.ks.length := (HF.out.2.2.2.1 rfl).1
              have hixK : ix < K.length := by omega
              obtain ⟨g, cap, hVg, hgB, _⟩ := HS3.out.form (show 0 < K.length by omega)
              injection hVg with hAv hq1 hq2
              clear hq1 hq2
              subst hAv
              obtain ⟨p, hp⟩ : ∃ p, K[ix]? = some p := ⟨K[ix], List.getElem?_eq_getElem hixK⟩
              have hpc : s1.ks.getD ix dCode = p.1 := by rw [← HKS.out, List.getD_eq_getElem?_getD, List.getElem?_map, hp]; rfl
              have hpok := (HSO.out.ok p.1 (by rw [← hpc]; exact getD_mem hixl)).2
              obtain ⟨c5, cf5⟩ := HS3.out.codeCell hp 5 (by decide)
              obtain ⟨c2, cf2⟩ := HS3.out.codeCell hp 2 (by decide)
              obtain ⟨c3, cf3⟩ := HS3.out.codeCell hp 3 (by decide)
              simp only [cells6, List.getElem?_cons_succ, List.getElem?_cons_zero] at c5 c2 c3
              have hx0 : decide ((ix : Int) < 0) = false := decide_eq_false (by omega)
              have hx1 : decide (0 ≤ (ix : Int)) = true := decide_eq_true (by omega)
              have hel : (ix : Int) < s1.ks.length := by omega
              have hDD : ∀ nq, StW w B mb w.heap.size t m { s1 with ks := s1.ks.set ix { p.1 with active := false } } ((w3.drewN nq).setCell ⟨g, ix * 6 + 5, none⟩ (.bool false)) ∧ ∀ y : Int, StW w B mb w.heap.size t m { s1 with ks := s1.ks.set ix { p.1 with active := true, last := t, count := y } } ((((w3.drewN nq).setCell ⟨g, ix * 6 + 5, none⟩ (.bool true)).setCell ⟨g, ix * 6 + 2, none⟩ (.int .i64 t)).setCell ⟨g, ix * 6 + 3, none⟩ (.int .i64 y)) := fun nq =>
                StW.coded (HS3.out.below (w' := w3.drewN nq) (B' := w3.heap.size) ⟨rfl, rfl, rfl, Nat.le_refl _, fun _ _ => rfl⟩ (Nat.le_refl _)) ⟨HKS.out, HXH3.out, HNE.out, ⟨HBC3.out.os, HBC3.out.tape, HBC3.out.output, HBC3.out.size, HBC3.out.block⟩⟩ hp
              have HDD := Lib.hid hDD
              have HPC := Lib.hid hpc
              clear hDD hpc hp HS3 HXH3 HBC3
              by_cases h0 : n1 = 0
              · have hz0 : (n1 == 0) = true := by rw [beq_iff_eq]; exact h0
                have HC2 : Hid (codeOf l t row i s1 = { s1 with ks := s1.ks.set ix { p.1 with active := false } }) := by
                  show _ = _
                  rw [HCO.out, if_neg H1.out, if_pos ⟨h0, rfl⟩, HPC.out]
                clear h0
                go_wp2_with fail
                go_quiet (fail)
                go_wp2_with fail
                go_quiet (fail)
                go_wp2_with fail
                go_meet
                rw [HC2.out]
                exact (HDD.out _).1
              · have hz0 : (n1 == 0) = false := by rw [beq_eq_false_iff_ne]; exact h0
                have HC2 : Hid (codeOf l t row i s1 = s1) := by
                  show _ = _
                  rw [HCO.out, if_neg H1.out, if_neg (fun e => h0 e.1)]
                clear h0
                go_wp2_with fail
                go_quiet (fail)
                go_wp2_with fail
                go_quiet (fail)
                go_wp2_with fail
                go_meet
                rw [HC2.out]
                exact HX3.out.drewN _
      case rest =>
        have hSO2 := HSO.out.coded hmb hi t row
        have hfin : stepOf l t row i s = calmOf l i (codeOf l t row i (cntOf l row i s)) := rfl
        rw [HS1E.out] at hfin
        have HFIN := Lib.hid hfin
        clear hfin HS3 HXH3 HBC3 HKS HF HIX HHAS HA HNE hcv hK1 hKl hfew HSO K hcb hcl
        generalize codeOf l t row i s1 = s2 at *
        obtain ⟨VC2, VK2, V, K, hKs, hS, hxh, hne, hBc⟩ := hcut
        have HA := Lib.hid (hSO2.ascC hl20)
        have hfew := hSO2.few hl20
        have hKl : K.length = s2.ks.length := by rw [← hKs, List.length_map]
        have hK1 : K.length ≤ 1000000 := by omega
        obtain ⟨Av, cv, hVe, hcv, hCA⟩ := hS.codes hK1
        rw [hKs] at hCA
        rw [hKl] at hVe hcv
        subst hVe
        obtain ⟨ix, hix⟩ : ∃ ix, findS s2.ks (i : Int) = ix := ⟨_, rfl⟩
        obtain ⟨has, hhas⟩ : ∃ has, hasS s2.ks (i : Int) = has := ⟨_, rfl⟩
        have hf := find_S HA.out (i : Int)
        rw [hix, hhas] at hf
        have hnl : i < s2.cs.length := by rw [hSO2.cs]; exact hi
        obtain ⟨kb, kc, hVK, hkb, hkl⟩ := hS.clm.form (show 0 < s2.cs.length by omega)
        subst hVK
        have hC9 := index_any t VC2 (.slice (some ⟨kb, 0, none⟩) s2.cs.length kc) Av cv s2.ks i wc hCA HA.out hf
        obtain ⟨c, hc⟩ : ∃ c, s2.cs.getD i 0 = c := ⟨_, rfl⟩
        have hcb : 0 ≤ c ∧ c < m.heal := by have := hSO2.heal i hi; rw [HMD.out, hc] at this; exact this
        have g0 := hS.g 0
        have g1 := hS.g 1
        have g2 := hS.g 2
        have g3 := hS.g 3
        simp only [List.getElem?_toArray, List.getElem?_cons_succ, List.getElem?_cons_zero] at g0 g1 g2 g3
        have hCM : calmOf l i s2 = (if has = true ∧ (s2.ks.getD ix dCode).active = false then (if c + 1 = m.heal then { s2 with cs := s2.cs.set i 0, ks := s2.ks.eraseIdx ix } else { s2 with cs := s2.cs.set i (c + 1) }) else { s2 with cs := s2.cs.set i 0 }) := by
          unfold calmOf
          rw [hix, hhas, hc, HMD.out]
        have hW : ∀ w3, Below wc.heap.size wc w3 → RS w3 B mb t VC2 s2.ns (.slice (some ⟨kb, 0, none⟩) s2.cs.length kc) s2.cs (.slice Av s2.ks.length cv) K ∧ w3.heap[w.heap.size]? = some (.cells #[.int .i64 m.sig, .int .i64 m.low, .int .i64 m.high, .int .i64 m.up, .int .i64 m.down, .int .i64 m.limit, .int .i64 m.heal] 44 (0, 0)) ∧ Below B w w3 ∧
            w3.cell? ⟨mb, 2, none⟩ = some (.slice (some ⟨kb, 0, none⟩) s2.cs.length kc) ∧ w3.cell? ⟨mb, 3, none⟩ = some (.slice Av s2.ks.length cv) ∧ w3.cell? ⟨kb, i, none⟩ = some (.int .i64 c) ∧ w3.frozen? ⟨kb, i, none⟩ = false := fun w3 hb3 => by
          have hS3 := hS.below hb3 (Nat.le_refl _)
          have e := hS3.clm.cellI hnl
          rw [hc] at e
          exact ⟨hS3, (hb3.block w.heap.size (lt_of_block hxh)).trans hxh, hBc.trans (hb3.mono (by have := hS.bm; have := hS.lt; omega)), hS3.g 2, hS3.g 3, e.1, e.2⟩
        have HW := Lib.hid hW
        have HSO := Lib.hid hSO2
        have HF := Lib.hid hf
        have HKS := Lib.hid hKs
        have HCM := Lib.hid hCM
        have HNE := Lib.hid hne
        have en3 : (i : Int) < s2.cs.length := by omega
        have hBl : B ≤ wc.heap.size := by have := hS.bm; have := hS.lt; omega
        clear hS hxh hne hBc hCA hKs hix hhas hCM hW hSO2 hf hc
        rcases has with _ | _
        · rw [show idxAt ix false = (-1 : Int) from rfl] at hC9
          have HC9 := Lib.hid hC9
          clear hC9
          have HCM2 : Hid (calmOf l i s2 = { s2 with cs := s2.cs.set i 0 }) := by
            show _ = _
            rw [HCM.out, if_neg (by simp)]
          go_wp2_with (go_at_call 74; refine HC9.out.mono ?_; rintro e w3 ⟨rfl, hb3⟩; obtain ⟨hS3, hx3, hB3, p2, p3, pk, pf⟩ := HW.out w3 hb3; have HS3 := Lib.hid hS3; have HB3 := Lib.hid hB3; clear hS3 hx3 hB3)
          (try simp only [Exit.then, Exit.inBlock, ↓reduceIte])
          refine bodyPost_ret (results_none rfl _ _ _) rfl ⟨rfl, ?_, HB3.out.setCell hkb _⟩
          rw [HFIN.out, HCM2.out]
          exact ⟨VC2, _, _, K, HKS.out, HS3.out.setClm i 0⟩
        · rw [show idxAt ix true = (ix : Int) from rfl] at hC9
          have HC9 := Lib.hid hC9
          clear hC9
          have hixl : ix < s2.ks.length := (HF.out.2.2.2.1 rfl).1
          have hixK : ix < K.length := by omega
          obtain ⟨p, hp⟩ : ∃ p, K[ix]? = some p := ⟨K[ix], List.getElem?_eq_getElem hixK⟩
          have hpc : s2.ks.getD ix dCode = p.1 := by rw [← HKS.out, List.getD_eq_getElem?_getD, List.getElem?_map, hp]; rfl
          have hx0 : decide ((ix : Int) < 0) = false := decide_eq_false (by omega)
          have hx1 : ¬ ((ix : Int) < 0) := by omega
          have hel : (ix : Int) < s2.ks.length := by omega
          obtain ⟨g, cap, hVg, hgB, hgl⟩ := (HW.out wc (Below.refl _ _)).1.form (show 0 < K.length by omega)
          injection hVg with hAv hq1 hq2
          clear hq1 hq2
          subst hAv
          have HP := Lib.hid hp
          have HPC := Lib.hid hpc
          clear hp hpc
          rcases hact : p.1.active
          · have hCA : (s2.ks.getD ix dCode).active = false := by rw [HPC.out]; exact hact
            by_cases hh : c + 1 = m.heal
            · have HCM2 : Hid (calmOf l i s2 = { s2 with cs := s2.cs.set i 0, ks := s2.ks.eraseIdx ix }) := by
                show _ = _
                rw [HCM.out, if_pos ⟨rfl, hCA⟩, if_pos hh]
              have hhe : (c + 1 == m.heal) = true := by rw [beq_iff_eq]; exact hh
              have HACT := Lib.hid hact
              clear hCA hact hh
              go_wp2_with (go_at_call 74; refine HC9.out.mono ?_; rintro e w3 ⟨rfl, hb3⟩; obtain ⟨hS3, hx3, hB3, p2, p3, pk, pf⟩ := HW.out w3 hb3; have HS3 := Lib.hid hS3; have HB3 := Lib.hid hB3; have c5 := (hS3.codeCell HP.out 5 (by decide)).1; simp only [cells6, List.getElem?_cons_succ, List.getElem?_cons_zero] at c5; rw [HACT.out] at c5; have hSC := hS3.setClm i (c + 1); have x6 := row_cell (((Below.heap_setCell w3 ⟨kb, i, none⟩ (.int .i64 (c + 1)) w.heap.size (fun e => HNE.out.2.2.1 (by rw [e]; rfl)))).trans hx3) 6; have p22 := hSC.g 2; have p33 := hSC.g 3; have pk2 := (hSC.clm.cellI (by simpa using hnl)).1; rw [getD_set _ _ _ _ hnl, if_pos rfl] at pk2; simp only [List.getElem?_toArray, List.getElem?_cons_succ, List.getElem?_cons_zero] at p22 p33 x6; have HSC := Lib.hid hSC; clear hS3 hx3 hB3 hSC)
              go_quiet (fail)
              go_wp2_with fail
              have hS9 := HSC.out.below (w' := (w3.setCell ⟨kb, i, none⟩ (.int .i64 (c + 1))).drewN nq) (B' := (w3.setCell ⟨kb, i, none⟩ (.int .i64 (c + 1))).heap.size) ⟨rfl, rfl, rfl, Nat.le_refl _, fun _ _ => rfl⟩ (Nat.le_refl _)
              have hB9 : Below B w ((w3.setCell ⟨kb, i, none⟩ (.int .i64 (c + 1))).drewN nq) := (HB3.out.setCell (p := ⟨kb, i, none⟩) hkb _).trans ⟨rfl, rfl, rfl, Nat.le_refl _, fun _ _ => rfl⟩
              have HS9 := Lib.hid hS9
              have HB9 := Lib.hid hB9
              clear p2 p3 pk pf c5 x6 p22 p33 pk2 HSC HS3 HB3 HW HC9 hS9 hB9 hb3
              generalize (w3.setCell ⟨kb, i, none⟩ (.int .i64 (c + 1))).drewN nq = W9 at *
              have hSd := HS9.out.below (Below.refl W9.heap.size W9).drew (Nat.le_refl _)
              obtain ⟨A9, news, hD⟩ := del_facts hSd.row (by rw [hKl]) hixl (fun q hq => frame_one (hSd.frames q hq))
              have hA9 := hD.1
              have HD := Lib.hid hD
              have p3 := HS9.out.g 3
              simp only [List.getElem?_toArray, List.getElem?_cons_succ, List.getElem?_cons_zero] at p3
              obtain ⟨W1, hW1⟩ : ∃ W1, W1 = W9.drew.setCells g (0 + ix * 6) news := ⟨_, rfl⟩
              have hx9 : ∀ b, b < W9.heap.size → b ≠ g → W1.heap[b]? = W9.heap[b]? := fun b hb hne => by rw [hW1]; exact HD.out.2.2.2.2.2.2.block b hb (fun e => hne (by injection e))
              have hmg : mb ≠ g := fun e => HS9.out.nv (by rw [e]; rfl)
              have q3 := (World.cell?_of_block (a := ⟨mb, 3, none⟩) (hx9 mb HS9.out.lt hmg)).trans (HS9.out.g 3)
              have qf := (World.frozen?_of_block (a := ⟨mb, 3, none⟩) (hx9 mb HS9.out.lt hmg)).trans (HS9.out.fz 3)
              simp only [List.getElem?_toArray, List.getElem?_cons_succ, List.getElem?_cons_zero] at q3
              have ek : ix + (s2.ks.length - (ix + 1)) = s2.ks.length - 1 := by omega
              have hSE : RS (W1.setCell ⟨mb, 3, none⟩ (.slice (some ⟨g, 0, none⟩) (ix + (s2.ks.length - (ix + 1))) cv)) B mb t VC2 s2.ns (.slice (some ⟨kb, 0, none⟩) s2.cs.length kc) (s2.cs.set i (c + 1)) (.slice (some ⟨g, 0, none⟩) (ix + (s2.ks.length - (ix + 1))) cv) (K.eraseIdx ix) := by
                rw [hW1, ek]
                exact hSd.putRow HD.out.2.2.2.2.2.2 HD.out.2.2.2.2.2.1 (.inl rfl) (fun q hq => .inl (List.mem_of_mem_eraseIdx hq))
              have hBE : Below B w (W1.setCell ⟨mb, 3, none⟩ (.slice (some ⟨g, 0, none⟩) (ix + (s2.ks.length - (ix + 1))) cv)) := by
                have h1 : Below B w W9.drew := HB9.out.drew
                rw [hW1]
                exact (h1.grown HD.out.2.2.2.2.2.2 (show B ≤ W9.heap.size by have := HS9.out.bm; have := HS9.out.lt; omega) (fun k hk => by injection hk with hk; omega)).setCell HS9.out.bm _
              have r2 := hSE.g 2
              obtain ⟨rk, rf⟩ := hSE.clm.cellI (show i < (s2.cs.set i (c + 1)).length by simpa using hnl)
              simp only [List.getElem?_toArray, List.getElem?_cons_succ, List.getElem?_cons_zero] at r2
              have hSG := hSE.setClm i 0
              rw [List.set_set] at hSG
              have HSG := Lib.hid hSG
              have HBE := Lib.hid hBE
              have hW := Lib.hid hW1
              have hw1 : IntKind.i64.wrap ((ix : Int) + 1) = (ix : Int) + 1 := by rw [IntKind.wrap_i64]; omega
              have hb1 : (0 : Int) ≤ (ix : Int) + 1 := by omega
              have hin : ix + 1 ≤ s2.ks.length := by omega
              have hin2 : (ix : Int) + 1 ≤ (s2.ks.length : Int) := by omega
              have htn : ((ix : Int) + 1).toNat = ix + 1 := by omega
              have hxc : ix ≤ cv := by omega
              have hxc1 : ix + 1 ≤ cv := by omega
              obtain ⟨i0, hi0, hz0, hz1, hz2⟩ := info_parts info_code
              have u25 := under_codes
              have mixed : Tryd.prog.follows .mixedOrders = true := by kernel_rfl
              clear hSd hD hW1 hx9 hSE hBE hSG ek
              go_region_law_o (refine step_append_room rfl (.tmp 216) (.tmp 223) 25 rfl 46 i0 6 under_codes hi0 hz1 g 0 ix cv (by simp [Act.eval, Act.put]) A9 (s2.ks.length - (ix + 1)) (cv - (ix + 1)) news (by simp [Act.eval, Act.put]) HD.out.2.1 HD.out.2.2.1 HD.out.2.2.2.1 (by omega) HD.out.2.2.2.2.1 ?_; rw [← hW.out])
              all_goals
                go_wp2_with fail
                go_end0
                refine ⟨rfl, ?_, HBE.out.setCell (p := ⟨kb, i, none⟩) hkb _⟩
                rw [HFIN.out, HCM2.out]
                exact ⟨VC2, _, _, K.eraseIdx ix, by rw [← HKS.out, List.eraseIdx_eq_take_drop_succ, List.eraseIdx_eq_take_drop_succ, List.map_append, List.map_take, List.map_drop], HSG.out⟩
            · have HCM2 : Hid (calmOf l i s2 = { s2 with cs := s2.cs.set i (c + 1) }) := by
                show _ = _
                rw [HCM.out, if_pos ⟨rfl, hCA⟩, if_neg hh]
              have hhe : (c + 1 == m.heal) = false := by rw [beq_eq_false_iff_ne]; exact hh
              have HACT := Lib.hid hact
              clear hCA hact hh
              go_wp2_with (go_at_call 74; refine HC9.out.mono ?_; rintro e w3 ⟨rfl, hb3⟩; obtain ⟨hS3, hx3, hB3, p2, p3, pk, pf⟩ := HW.out w3 hb3; have HS3 := Lib.hid hS3; have HB3 := Lib.hid hB3; have c5 := (hS3.codeCell HP.out 5 (by decide)).1; simp only [cells6, List.getElem?_cons_succ, List.getElem?_cons_zero] at c5; rw [HACT.out] at c5; have hSC := hS3.setClm i (c + 1); have x6 := row_cell (((Below.heap_setCell w3 ⟨kb, i, none⟩ (.int .i64 (c + 1)) w.heap.size (fun e => HNE.out.2.2.1 (by rw [e]; rfl)))).trans hx3) 6; have p22 := hSC.g 2; have pk2 := (hSC.clm.cellI (by simpa using hnl)).1; rw [getD_set _ _ _ _ hnl, if_pos rfl] at pk2; simp only [List.getElem?_toArray, List.getElem?_cons_succ, List.getElem?_cons_zero] at p22 x6; have HSC := Lib.hid hSC; clear hS3 hx3 hB3 hSC)
              go_quiet (fail)
              go_wp2_with fail
              have hSF := HSC.out.below (w' := (w3.setCell ⟨kb, i, none⟩ (.int .i64 (c + 1))).drewN nq) (B' := (w3.setCell ⟨kb, i, none⟩ (.int .i64 (c + 1))).heap.size) ⟨rfl, rfl, rfl, Nat.le_refl _, fun _ _ => rfl⟩ (Nat.le_refl _)
              have hBF : Below B w ((w3.setCell ⟨kb, i, none⟩ (.int .i64 (c + 1))).drewN nq) := (HB3.out.setCell (p := ⟨kb, i, none⟩) hkb _).trans ⟨rfl, rfl, rfl, Nat.le_refl _, fun _ _ => rfl⟩
              go_end0
              refine ⟨rfl, ?_, hBF⟩
              rw [HFIN.out, HCM2.out]
              exact ⟨VC2, _, _, K, HKS.out, hSF⟩
          · have HCM2 : Hid (calmOf l i s2 = { s2 with cs := s2.cs.set i 0 }) := by
              show _ = _
              rw [HCM.out, HPC.out, hact, if_neg (by simp)]
            have HACT := Lib.hid hact
            clear hact
            go_wp2_with (go_at_call 74; refine HC9.out.mono ?_; rintro e w3 ⟨rfl, hb3⟩; obtain ⟨hS3, hx3, hB3, p2, p3, pk, pf⟩ := HW.out w3 hb3; have HS3 := Lib.hid hS3; have HB3 := Lib.hid hB3; have c5 := (hS3.codeCell HP.out 5 (by decide)).1; simp only [cells6, List.getElem?_cons_succ, List.getElem?_cons_zero] at c5; rw [HACT.out] at c5; clear hS3 hx3 hB3)
            (try simp only [Exit.then, Exit.inBlock, ↓reduceIte])
            refine bodyPost_ret (results_none rfl _ _ _) rfl ⟨rfl, ?_, HB3.out.setCell hkb _⟩
            rw [HFIN.out, HCM2.out]
            exact ⟨VC2, _, _, K, HKS.out, HS3.out.setClm i 0⟩
end Go.Proofs.YtonpemikodajdaaDoor
