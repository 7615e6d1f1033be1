/- Walk: tick, from what code and calm do for each monitor. -/
import Derived.Test.YtonpemikodajdaaDoorWt10
import Derived.Test.YtonpemikodajdaaDoorTail
import Derived.Deep.QuietTactic
namespace Go.Proofs.YtonpemikodajdaaDoor
open Go.RowKit

/-- a watcher's counters and codes -/
structure WSt where
  ns : List Int
  cs : List Int
  ks : List MCode
def WT (w : World) (B wb : Nat) (A : Option Addr) (lc : Nat) (l : List MMon) (tick : Int) (cb kb : Nat) (s : WSt) : Prop :=
  s.ns.length = l.length ∧ s.cs.length = l.length ∧ ∃ V K, K.map Prod.fst = s.ks ∧ WS w B wb A lc l tick cb s.ns kb s.cs V K
theorem WT.below {w w' : World} {B wb : Nat} {A : Option Addr} {lc : Nat} {l : List MMon} {tick : Int} {cb kb : Nat} {s : WSt} (h : WT w B wb A lc l tick cb kb s) {B' : Nat} (hb : Below B' w w') (hB : w.heap.size ≤ B') : WT w' B wb A lc l tick cb kb s := by
  obtain ⟨h1, h2, V, K, h3, h4⟩ := h
  exact ⟨h1, h2, V, K, h3, h4.below hb hB⟩
def CodeC (B wb : Nat) (A : Option Addr) (lc : Nat) (l : List MMon) (tick : Int) (cb kb : Nat) (R : Option Addr) (rc : Nat) (row : List Int) (i : Nat) (s s' : WSt) : Prop :=
  ∀ w, WT w B wb A lc l tick cb kb s → IntsA w B R row → Calls Tryd.prog 90 #[.pointer (some ⟨wb, 0, none⟩), .int .i64 i, .slice R row.length rc] w fun e w' => e = .returned (.tuple #[]) ∧ WT w' B wb A lc l tick cb kb s' ∧ Below B w w'
def CalmC (B wb : Nat) (A : Option Addr) (lc : Nat) (l : List MMon) (tick : Int) (cb kb : Nat) (i : Nat) (s s' : WSt) : Prop :=
  ∀ w, WT w B wb A lc l tick cb kb s → Calls Tryd.prog 91 #[.pointer (some ⟨wb, 0, none⟩), .int .i64 i] w fun e w' => e = .returned (.tuple #[]) ∧ WT w' B wb A lc l tick cb kb s' ∧ Below B w w'
/-- a counter behind a look at a signal -/
def cntS (m : MMon) (v n : Int) : Int := if inB v m.low m.high = true then max (n - m.down) 0 else min (n + m.up) m.limit
theorem mon_ok {l : List MMon} (h : monsB l = true) {i : Nat} {m : MMon} (hm : l[i]? = some m) : monB m = true ∧ l.length ≤ 20 := by
  unfold monsB at h
  rw [Bool.and_eq_true, decide_eq_true_eq, List.all_eq_true] at h
  exact ⟨h.2 m (List.mem_of_getElem? hm), h.1⟩
theorem monB_bounds {m : MMon} (h : monB m = true) : (0 ≤ m.sig ∧ m.sig ≤ 19) ∧ (1 ≤ m.up ∧ m.up ≤ 100) ∧ (1 ≤ m.down ∧ m.down ≤ 100) ∧ (1 ≤ m.limit ∧ m.limit ≤ 1000) ∧ (1 ≤ m.heal ∧ m.heal ≤ 1000) := by
  unfold monB inB at h
  simp only [Bool.and_eq_true, decide_eq_true_eq] at h
  omega
theorem law_sig {l : List MMon} {row : List Int} (h : lawB l row = true) {i : Nat} {m : MMon} (hm : l[i]? = some m) : m.sig < row.length := by
  unfold lawB at h
  rw [Bool.and_eq_true, Bool.and_eq_true] at h
  have := List.all_eq_true.1 h.2.2 m (List.mem_of_getElem? hm)
  unfold sigB at this
  simpa using this
theorem WT.counted {w : World} {B wb : Nat} {A : Option Addr} {lc : Nat} {l : List MMon} {tick : Int} {cb kb : Nat} {s : WSt} (h : WT w B wb A lc l tick cb kb s) {i : Nat} (hi : i < l.length) (n : Int) : WT (w.setCell ⟨cb, i, none⟩ (.int .i64 n)) B wb A lc l tick cb kb { s with ns := s.ns.set i n } := by
  obtain ⟨h1, h2, V, K, h3, h4⟩ := h
  exact ⟨by simpa using h1, h2, V, K, h3, h4.setCnt h1 hi n⟩
section
variable {w W : World} {B wb : Nat} {A : Option Addr} {lc : Nat} {l : List MMon} {tick : Int} {cb kb : Nat} {s : WSt}
theorem WT.bc (h : WT W B wb A lc l tick cb kb s) : B ≤ cb := by obtain ⟨_, _, V, K, _, h⟩ := h; exact h.bc
theorem cnt_put (nq : Nat) (h : WT W B wb A lc l tick cb kb s) {i : Nat} (hi : i < l.length) {m : MMon} {v n x u : Int} (hc : cntS m v n = x) (hv : u = v) (hn : s.ns.getD i 0 = n) :
    WT ((W.drewN nq).drew.setCell ⟨cb, i, none⟩ (.int .i64 x)) B wb A lc l tick cb kb { s with ns := s.ns.set i (cntS m u (s.ns.getD i 0)) } := by
  subst hv
  rw [hn, hc]
  have hb0 : Below W.heap.size W (W.drewN nq).drew := ⟨rfl, rfl, rfl, Nat.le_refl _, fun _ _ => rfl⟩
  have h2 : WT (W.drewN nq).drew B wb A lc l tick cb kb s := h.below hb0 (Nat.le_refl _)
  exact h2.counted hi x
theorem bel_put (nq : Nat) (hb : Below B w W) (h : WT W B wb A lc l tick cb kb s) (i : Nat) (x : Int) : Below B w ((W.drewN nq).drew.setCell ⟨cb, i, none⟩ (.int .i64 x)) := by
  have h2 : Below B w (W.drewN nq).drew := ⟨hb.os, hb.tape, hb.output, hb.size, hb.block⟩
  exact h2.setCell h.bc _
theorem row_put (nq : Nat) {R : Option Addr} {row : List Int} (hr : IntsA W B R row) (h : WT W B wb A lc l tick cb kb s) (i : Nat) (x : Int) : IntsA ((W.drewN nq).drew.setCell ⟨cb, i, none⟩ (.int .i64 x)) B R row :=
  hr.keep (bel_put nq (Below.refl B W) h i x)
end
set_option maxRecDepth 100000 in
set_option maxHeartbeats 4000000 in
theorem tick_any {w : World} {B wb : Nat} {A : Option Addr} {lc : Nat} {l : List MMon} {tick : Int} {cb kb : Nat} (R : Option Addr) (rc : Nat) (row : List Int) (st md : Nat → WSt)
    (hT : WT w B wb A lc l tick cb kb (st 0)) (hml : monsB l = true) (hrow : IntsA w B R row) (hlaw : lawB l row = true) (htk : 0 ≤ tick ∧ tick ≤ 1000000)
    (hn : ∀ i, i < l.length → 0 ≤ (st i).ns.getD i 0 ∧ (st i).ns.getD i 0 ≤ 1000)
    (hcode : ∀ i m, l[i]? = some m → CodeC B wb A lc l tick cb kb R rc row i { st i with ns := (st i).ns.set i (cntS m (row.getD m.sig.toNat 0) ((st i).ns.getD i 0)) } (md i))
    (hcalm : ∀ i, i < l.length → CalmC B wb A lc l tick cb kb i (md i) (st (i + 1))) :
    Calls Tryd.prog 53 #[.pointer (some ⟨wb, 0, none⟩), .slice R row.length rc] w fun e w' => e = .returned (.tuple #[]) ∧ WT w' B wb A lc l (tick + 1) cb kb (st l.length) ∧ Below B w w' := by
  have hBw : B ≤ w.heap.size := by obtain ⟨_, _, V, K, _, h⟩ := hT; have := h.bw; have := h.lt; omega
  have hlen : l.length ≤ 20 := by unfold monsB at hml; rw [Bool.and_eq_true, decide_eq_true_eq] at hml; exact hml.1
  have g0 : w.cell? ⟨wb, 0, none⟩ = some (.slice A l.length lc) := by obtain ⟨_, _, V, K, _, h⟩ := hT; have := h.g 0; simpa using this
  have HROW := Lib.hid hrow
  have HML := Lib.hid hml
  have HLAW := Lib.hid hlaw
  have HN := Lib.hid hn
  have HCO := Lib.hid hcode
  have HCA := Lib.hid hcalm
  have HT0 := Lib.hid hT
  clear hT hml hrow hlaw hn hcode hcalm
  go_enter Tryd.func53, Tryd.ntmps53
  go_wp2_with fail
  go_loopw [12] (fun vi wr => ∃ k : Nat, k ≤ l.length ∧ vi = .int .i64 k ∧ Hid (WT wr B wb A lc l tick cb kb (st k)) ∧ Below B w wr) (fun vi _ => l.length - (intOf vi).toNat)
  case atStart => exact ⟨0, Nat.zero_le _, rfl, HT0, Below.refl _ _⟩
  case round =>
    obtain ⟨k, hk, rfl, HT, hbw⟩ := hrel
    by_cases hlt : k < l.length
    · have hT0 := HT.out
      obtain ⟨V, K, hKK, hS⟩ := hT0.2.2
      obtain ⟨m, b, off, ht, rfl, hblt, t0, t1, t2, t3, t4, t5, t6⟩ := hS.mons.at_ hlt
      have HM := Lib.hid ht
      have hmb := monB_bounds (mon_ok HML.out ht).1
      have hsl : m.sig < row.length := law_sig HLAW.out ht
      obtain ⟨sg, hsg⟩ : ∃ n : Nat, m.sig = n := ⟨m.sig.toNat, by omega⟩
      have hsn : m.sig.toNat = sg := by omega
      have hCO := HCO.out k m ht
      rw [hsn] at hCO
      have HCOD := Lib.hid hCO
      have HCAL := Lib.hid (HCA.out k hlt)
      rw [hsg] at t0
      have hsr : sg < row.length := by omega
      obtain ⟨n, hnn⟩ : ∃ n, (st k).ns.getD k 0 = n := ⟨_, rfl⟩
      have hnb := HN.out k hlt
      rw [hnn] at hnb
      obtain ⟨v, hv⟩ : ∃ v, row.getD sg 0 = v := ⟨_, rfl⟩
      have hT1 : WT (wr.alloc (.cells #[.int .i64 (sg : Int), .int .i64 m.low, .int .i64 m.high, .int .i64 m.up, .int .i64 m.down, .int .i64 m.limit, .int .i64 m.heal] 44)) B wb _ lc l tick cb kb (st k) := hT0.below ((Below.refl wr.heap.size wr).alloc (Nat.le_refl _) _) (Nat.le_refl _)
      have hb1 : Below B w (wr.alloc (.cells #[.int .i64 (sg : Int), .int .i64 m.low, .int .i64 m.high, .int .i64 m.up, .int .i64 m.down, .int .i64 m.limit, .int .i64 m.heal] 44)) := hbw.alloc (by have := hbw.size; omega) _
      have n0 := newcell wr #[.int .i64 (sg : Int), .int .i64 m.low, .int .i64 m.high, .int .i64 m.up, .int .i64 m.down, .int .i64 m.limit, .int .i64 m.heal] 44 0
      have n1 := newcell wr #[.int .i64 (sg : Int), .int .i64 m.low, .int .i64 m.high, .int .i64 m.up, .int .i64 m.down, .int .i64 m.limit, .int .i64 m.heal] 44 1
      have n2 := newcell wr #[.int .i64 (sg : Int), .int .i64 m.low, .int .i64 m.high, .int .i64 m.up, .int .i64 m.down, .int .i64 m.limit, .int .i64 m.heal] 44 2
      have n3 := newcell wr #[.int .i64 (sg : Int), .int .i64 m.low, .int .i64 m.high, .int .i64 m.up, .int .i64 m.down, .int .i64 m.limit, .int .i64 m.heal] 44 3
      have n4 := newcell wr #[.int .i64 (sg : Int), .int .i64 m.low, .int .i64 m.high, .int .i64 m.up, .int .i64 m.down, .int .i64 m.limit, .int .i64 m.heal] 44 4
      have n5 := newcell wr #[.int .i64 (sg : Int), .int .i64 m.low, .int .i64 m.high, .int .i64 m.up, .int .i64 m.down, .int .i64 m.limit, .int .i64 m.heal] 44 5
      simp only [List.getElem?_toArray, List.getElem?_cons_succ, List.getElem?_cons_zero] at n0 n1 n2 n3 n4 n5
      obtain ⟨rb, ro, hR, hrb, hrc⟩ := (HROW.out.keep hb1).at_ hsr
      rw [hv] at hrc
      obtain ⟨_, _, V1, K1, hKK1, hS1⟩ := id hT1
      have g2 := hS1.g 2
      have c0 := hS1.cnt.cell hlt
      have f0 := hS1.cnt.frozen k
      simp at g2
      rw [hnn] at c0
      have HT1 := Lib.hid hT1
      have HB1 := Lib.hid hb1
      have HRO := Lib.hid (HROW.out.keep hb1)
      subst hR
      obtain ⟨x, hx⟩ : ∃ x, inB v m.low m.high = x := ⟨_, rfl⟩
      have hcn : cntS m v n = if x = true then max (n - m.down) 0 else min (n + m.up) m.limit := by unfold cntS; rw [hx]
      have HCN := Lib.hid hcn
      have HX := Lib.hid hx
      have HV := Lib.hid hv
      have HNN := Lib.hid hnn
      have e1 : IntKind.i64.wrap (n - m.down) = n - m.down := IntWalk.i64_in _ (by omega)
      have e2 : IntKind.i64.wrap (n + m.up) = n + m.up := IntWalk.i64_in _ (by omega)
      clear hS hS1 hKK hKK1 hT1 hb1 hx hcn hv hnn hsg hsn hsl hCO hT0 ht
      rcases x with _ | _
      · have hcv : cntS m v n = (if m.limit < n + m.up then m.limit else n + m.up) := by rw [HCN.out]; (try simp only [if_true]); (try simp only [if_false, Bool.false_eq_true]); split <;> omega
        obtain ⟨y, hy⟩ : ∃ y, (if m.limit < n + m.up then m.limit else n + m.up) = y := ⟨_, rfl⟩
        rw [hy] at hcv
        have HCV := Lib.hid hcv
        clear hcv
        go_wp2_with fail
        go_quiet ((go_at_call 66; exact quiet_w (within_b _ _ _ _ _ HX.out)))
        go_wp2_with fail
        refine wp_region_quiet_tail 11 (by kernel_rfl) (by kernel_rfl) ?_
        simp only [List.take_succ_cons, List.take_zero, List.drop_succ_cons, List.drop_zero]
        repeat (go_big_quiet_step (fail))
        refine wpQuiet_nil ?_
        have hT3 := cnt_put nq HT1.out hlt HCV.out HV.out HNN.out
        have hR3 := row_put nq HRO.out HT1.out k y
        have hb3 := bel_put nq HB1.out HT1.out k y
        clear n0 n1 n2 n3 n4 n5 e1 e2 t0 t1 t2 t3 t4 t5 t6 hrc hmb hy
        go_wp2_with (first | (go_at_call 90; refine (HCOD.out _ hT3 hR3).mono ?_; rintro e w5 ⟨rfl, hT5, hb5⟩) | (go_at_call 91; refine (HCAL.out _ hT5).mono ?_; rintro e w6 ⟨rfl, hT6, hb6⟩))
        go_roundw
        case rel => exact ⟨k + 1, by omega, by go_num, hT6, hb3.trans (hb5.trans hb6)⟩
        case measure => simp [intOf]; omega
      · have hcv : cntS m v n = (if n - m.down < 0 then 0 else n - m.down) := by rw [HCN.out]; (try simp only [if_true]); (try simp only [if_false, Bool.false_eq_true]); split <;> omega
        obtain ⟨y, hy⟩ : ∃ y, (if n - m.down < 0 then 0 else n - m.down) = y := ⟨_, rfl⟩
        rw [hy] at hcv
        have HCV := Lib.hid hcv
        clear hcv
        go_wp2_with fail
        go_quiet ((go_at_call 66; exact quiet_w (within_b _ _ _ _ _ HX.out)))
        go_wp2_with fail
        refine wp_region_quiet_tail 9 (by kernel_rfl) (by kernel_rfl) ?_
        simp only [List.take_succ_cons, List.take_zero, List.drop_succ_cons, List.drop_zero]
        repeat (go_big_quiet_step (fail))
        refine wpQuiet_nil ?_
        have hT3 := cnt_put nq HT1.out hlt HCV.out HV.out HNN.out
        have hR3 := row_put nq HRO.out HT1.out k y
        have hb3 := bel_put nq HB1.out HT1.out k y
        clear n0 n1 n2 n3 n4 n5 e1 e2 t0 t1 t2 t3 t4 t5 t6 hrc hmb hy
        go_wp2_with (first | (go_at_call 90; refine (HCOD.out _ hT3 hR3).mono ?_; rintro e w5 ⟨rfl, hT5, hb5⟩) | (go_at_call 91; refine (HCAL.out _ hT5).mono ?_; rintro e w6 ⟨rfl, hT6, hb6⟩))
        go_roundw
        case rel => exact ⟨k + 1, by omega, by go_num, hT6, hb3.trans (hb5.trans hb6)⟩
        case measure => simp [intOf]; omega
    · obtain rfl : k = l.length := by omega
      obtain ⟨V, K, hKK, hS⟩ := HT.out.2.2
      have g1 := hS.g 1
      simp at g1
      have hfz : wr.frozen? ⟨wb, 1, none⟩ = false := by simp [World.frozen?, hS.hw]
      have e1 : IntKind.i64.wrap (tick + 1) = tick + 1 := IntWalk.i64_in _ (by omega)
      have hS2 := HT.out
      have hS3 : WT (wr.setCell ⟨wb, 1, none⟩ (.int .i64 (tick + 1))) B wb A lc l (tick + 1) cb kb (st l.length) := ⟨hS2.1, hS2.2.1, V, K, hKK, hS.setTick (tick + 1)⟩
      have hb3 : Below B w (wr.setCell ⟨wb, 1, none⟩ (.int .i64 (tick + 1))) := hbw.setCell hS.bw _
      have HS3 := Lib.hid hS3
      clear hS hS2 hS3 hKK
      go_wp2_with fail
      go_end0
      exact ⟨rfl, HS3.out, hb3⟩
end Go.Proofs.YtonpemikodajdaaDoor
