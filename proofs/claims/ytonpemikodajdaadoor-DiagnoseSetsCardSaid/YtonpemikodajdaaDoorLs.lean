/- Walk: the law of a signal that is too high in every tick. -/
import Derived.Test.YtonpemikodajdaaDoorLw
import Derived.Test.YtonpemikodajdaaDoorPs
import Derived.Test.YtonpemikodajdaaDoorGx
import Derived.Deep.Cut
import Derived.Deep.RegionLaw
namespace Go.Proofs.YtonpemikodajdaaDoor
open Go.RowKit

/-- a row of k equal lists, in memory of the call's own -/
def RepS (w : World) (base : Nat) (V : Value) (k : Nat) (u : Value) : Prop := w.ownsRow base 24 1 V k (List.replicate k u)
section
variable {ops : Array Oper} {rest : List Oper} {o : Oper} {a : Act} {Q : Exit → Act → World → Prop}
theorem app_rep (w : World) (hg : o.guard = none) (s x : Operand) (ho : o.op = .call { callee := .builtin .append, args := #[s, x], argTypes := #[23, 23] }) (base : Nat) (V : Value) (k : Nat) (u : Value) (hu : u.oneCell' = true)
    (hs : a.eval s = V) (hown : RepS w base V k u) (wb : Nat) (hx : a.eval x = .slice (some ⟨wb, 0, none⟩) 1 1) (hy : w.cell? ⟨wb, 0, none⟩ = some u) (hlen : k ≤ 1000) (hbase : base ≤ w.heap.size)
    (hK : ∀ V' w', RepS w' base V' (k + 1) u → w.grownBy w' V.ownBlock → wpList Tryd.prog ops Q rest (a.put o.dst V') w') : wpList Tryd.prog ops Q (o :: rest) a w := by
  obtain ⟨i0, hi0, hz0, hz1, hz2⟩ := info_parts info_row
  refine wpList_append_own w hg s x 23 ho base 24 i0 (.slice none 0 0) 1 24 under_rows hi0 hz0 hz1 hz2 rfl (by decide) V k _ hs hown ⟨wb, 0, none⟩ 1 1 [u] hx rfl ?_ ?_ (by unfold maxLen; omega) (by omega) hbase (fun V' w' h1 h2 _ => hK V' w' ?_ h2)
  · intro j v hj
    cases j with
    | zero => simp at hj; subst hj; simpa [Addr.add] using hy
    | succ j => simp at hj
  · intro v hv
    rw [List.mem_singleton] at hv
    subst hv
    exact hu
  · unfold RepS
    rw [List.replicate_succ']
    exact h1
end
theorem RepS.form {w : World} {base k : Nat} {V u : Value} (h : RepS w base V k u) : ∃ A cap, V = .slice A k cap ∧ k ≤ cap ∧ (0 < k → ∃ g, A = some ⟨g, 0, none⟩ ∧ base ≤ g ∧ g < w.heap.size) := by
  have hlt := own_block_lt h
  rcases h.2 with ⟨hv, h0⟩ | ⟨g, cap, cur, hv, hg, hh, hn, _⟩
  · exact ⟨none, 0, by rw [hv, h0], by omega, fun h => by omega⟩
  · exact ⟨some ⟨g, 0, none⟩, cap, hv, hn, fun _ => ⟨g, rfl, hg, (hlt g (by rw [hv]; rfl)).2⟩⟩
theorem RepS.rows {w : World} {base k n cap : Nat} {A Ao : Option Addr} {co : Nat} {own : List Int} (h : RepS w base (.slice A n cap) k (.slice Ao own.length co)) (hl : k ≤ 1000) (hI : IntsA w w.heap.size Ao own) (hc : own.length ≤ co) {j : Nat} (hj : j ≤ k) : RowsA w w.heap.size A (List.replicate j own) := by
  refine ⟨by rw [List.length_replicate]; unfold maxLen; omega, fun _ => (Ao, co), ?_, fun i hi => ?_⟩
  · rw [List.length_replicate]
    intro hj0
    obtain ⟨A', cap', e, _, hf⟩ := h.form
    injection e with e1 e2 e3
    obtain ⟨g, e4, _, hg⟩ := hf (by omega)
    rw [e1, e4]
    refine ⟨g, 0, rfl, hg, fun i q hi hq => ?_⟩
    obtain rfl : q = 0 := by omega
    rw [e1, e4, e2] at h
    have h1 := World.ownsRow.cellAt (show w.ownsRow base 24 1 (.slice (some ⟨g, 0, none⟩) k cap) k (List.replicate k _) from h) i (by omega)
    rw [Nat.zero_add, Nat.mul_one, Nat.add_zero, h1, List.getElem?_replicate, if_pos (by omega)]
    show _ = some (Value.slice Ao ((List.replicate j own).getD i []).length co)
    rw [List.getD_eq_getElem?_getD, List.getElem?_replicate, if_pos hi]
    rfl
  · rw [List.length_replicate] at hi
    rw [List.getD_eq_getElem?_getD, List.getElem?_replicate, if_pos hi]
    exact ⟨hc, hI⟩
theorem up_of {lim up : Int} (hu : 1 ≤ up) (hl : 1 ≤ lim) : ∃ k : Nat, (lim + up - 1) / up = ((k + 1 : Nat) : Int) ∧ (k : Int) * up < lim ∧ lim ≤ (k : Int) * up + up := by
  obtain ⟨d, hd⟩ : ∃ d, (lim + up - 1) / up = d := ⟨_, rfl⟩
  have h1 := Int.ediv_mul_le (lim + up - 1) (show up ≠ 0 by omega)
  have h2 := Int.lt_ediv_add_one_mul_self (lim + up - 1) (show 0 < up by omega)
  rw [hd] at h1 h2
  rw [Int.add_mul, Int.one_mul] at h2
  have h3 : 1 ≤ d := by
    rcases Int.lt_or_le 0 d with h | h
    · omega
    · have := Int.mul_le_mul_of_nonneg_right h (show 0 ≤ up by omega)
      omega
  refine ⟨(d - 1).toNat, by rw [hd]; omega, ?_, ?_⟩
  · have e : (((d - 1).toNat : Nat) : Int) = d - 1 := by omega
    rw [e, Int.sub_mul, Int.one_mul]
    omega
  · have e : (((d - 1).toNat : Nat) : Int) = d - 1 := by omega
    rw [e, Int.sub_mul, Int.one_mul]
    omega
theorem watchE_less {l : List MMon} {own : List Int} {k : Nat} (h : watchE l (List.replicate (k + 1) own) = 0) : watchE l (List.replicate k own) = 0 := by
  unfold watchE at h ⊢
  rcases hq : monsB l
  · rw [hq, if_neg (by decide)] at h; exact absurd h (by decide)
  · rw [hq, if_pos rfl, List.length_replicate] at h
    rw [if_pos rfl, List.length_replicate]
    by_cases hn : k + 1 > 500
    · rw [if_pos hn] at h; exact absurd h (by decide)
    · rw [if_neg hn] at h
      rw [if_neg (by omega)]
      rcases hr : (List.replicate (k + 1) own).all (lawB l)
      · rw [hr] at h; exact absurd h (by decide)
      · have h9 := List.all_eq_true.1 hr own (by simp)
        rw [if_pos (List.all_eq_true.2 fun x hx => by rw [List.eq_of_mem_replicate hx]; exact h9)]
theorem IntsA.alloc' {w : World} {A : Option Addr} {l : List Int} (h : IntsA w w.heap.size A l) (o : Obj) : IntsA (w.alloc o) (w.alloc o).heap.size A l := (h.keep ((Below.refl _ _).alloc (Nat.le_refl _) o)).more (by simp)
set_option maxRecDepth 100000 in
set_option maxHeartbeats 4000000 in
theorem sets_any (A : Option Addr) (lc : Nat) (l : List MMon) (R : Option Addr) (rc : Nat) (row : List Int) (q : Int) (w : World) (h : MonsA w w.heap.size A l) (hr : IntsA w w.heap.size R row) (hT : TabW w) :
    Calls Tryd.prog 5 #[.slice A l.length lc, .slice R row.length rc, .int .i64 q] w fun e w' => e = .returned (.bool true) ∧ Below w.heap.size w w' := by
  have HW : Hid (∀ wx, Below w.heap.size w wx → Calls Tryd.prog 18 #[] wx fun e w' => e = .returned (.bool true) ∧ Below wx.heap.size wx w') := fun wx hb => works_any wx (hT.keep hb)
  have HM : Hid (∀ wx, Below w.heap.size w wx → MonsA wx wx.heap.size A l) := fun wx hb => (h.keep hb).more hb.size
  have HR : Hid (∀ wx, Below w.heap.size w wx → IntsA wx wx.heap.size R row) := fun wx hb => (hr.keep hb).more hb.size
  have hlm := h.1
  clear h hr hT
  rcases Nat.eq_zero_or_pos l.length with h0 | h0
  · rw [h0]
    clear hlm h0
    go_enter Tryd.func5, Tryd.ntmps5
    go_wp2_with (go_at_call 18; refine (HW.out _ (Below.refl _ _)).mono ?_; rintro e w7 ⟨rfl, hb7⟩)
    go_ret
    exact ⟨rfl, hb7⟩
  have z0 : ((l.length : Int) == 0) = false := by simp; intro e; rw [e] at h0; exact absurd h0 (by decide)
  rcases Nat.eq_zero_or_pos row.length with r0 | r0
  · rw [r0]
    clear r0
    go_enter Tryd.func5, Tryd.ntmps5
    go_wp2_with (go_at_call 18; refine (HW.out _ (Below.refl _ _)).mono ?_; rintro e w7 ⟨rfl, hb7⟩)
    go_ret
    exact ⟨rfl, hb7⟩
  have z1 : ((row.length : Int) == 0) = false := by simp; intro e; rw [e] at r0; exact absurd r0 (by decide)
  by_cases r1 : 20 < row.length
  · have z2 : decide ((20 : Int) < row.length) = true := by rw [decide_eq_true_eq]; omega
    go_enter Tryd.func5, Tryd.ntmps5
    go_wp2_with (go_at_call 18; refine (HW.out _ (Below.refl _ _)).mono ?_; rintro e w7 ⟨rfl, hb7⟩)
    go_ret
    exact ⟨rfl, hb7⟩
  have r1 : row.length ≤ 20 := by omega
  have z2 : decide ((20 : Int) < row.length) = false := by rw [decide_eq_false_iff_not]; omega
  rcases hmb : monsB l
  · have HC : Hid (Calls Tryd.prog 23 #[.slice A l.length lc] w fun e w' => e = .returned (.int .i64 100) ∧ Below w.heap.size w w') := rmcheck_any A lc l w (by have := HM.out w (Below.refl _ _); exact this) (by unfold checkM; rw [if_neg (by rw [hmb]; decide)])
    go_enter Tryd.func5, Tryd.ntmps5
    go_wp2_with (first
      | (go_at_call 23; refine HC.out.mono ?_; rintro e w6 ⟨rfl, hb6⟩)
      | (go_at_call 18; refine (HW.out _ hb6).mono ?_; rintro e w7 ⟨rfl, hb7⟩))
    go_ret
    exact ⟨rfl, hb6.trans (hb7.mono hb6.size)⟩
  have HC : Hid (Calls Tryd.prog 23 #[.slice A l.length lc] w fun e w' => e = .returned (.int .i64 0) ∧ Below w.heap.size w w') := rmcheck_any A lc l w (by have := HM.out w (Below.refl _ _); exact this) (by unfold checkM; rw [if_pos hmb])
  have HMB := Lib.hid hmb
  have hl20 := monsB_len hmb
  clear hmb
  go_enter Tryd.func5, Tryd.ntmps5
  go_upto_region 3 with (go_at_call 23; refine HC.out.mono ?_; rintro e w6 ⟨rfl, hb6⟩)
  have HB6 := Lib.hid hb6
  clear HC hb6
  have hq1 : -(l.length : Int) < q.tmod l.length ∧ q.tmod l.length < l.length := by
    have hp : (0 : Int) < l.length := by omega
    have h2 := Int.tmod_lt_of_pos q hp
    have h3 : -(l.length : Int) < q.tmod l.length := by
      rcases Int.le_total 0 q with h | h
      · have := Int.tmod_nonneg (l.length : Int) h; omega
      · have := Int.tmod_lt_of_pos (-q) hp; rw [Int.neg_tmod] at this; omega
    exact ⟨h3, h2⟩
  go_upto_region 4 with fail
  obtain ⟨x, hx, hxl⟩ : ∃ x : Nat, (q.tmod ↑l.length + ↑l.length) % ↑l.length = (x : Int) ∧ x < l.length := by
    have hp : (0 : Int) < l.length := by omega
    have h1 := Int.emod_nonneg (q.tmod ↑l.length + ↑l.length) (show (l.length : Int) ≠ 0 by omega)
    have h2 := Int.emod_lt_of_pos (q.tmod ↑l.length + ↑l.length) hp
    exact ⟨((q.tmod ↑l.length + ↑l.length) % ↑l.length).toNat, by omega, by omega⟩
  rw [hx]
  clear hx hq1
  obtain ⟨m, b, off, hm, hA, hb, m0, m1, m2, m3, m4, m5, m6⟩ := (HM.out w6 HB6.out).at_ hxl
  subst hA
  go_upto_region 5 with fail
  have hmb := (mon_ok HMB.out hm).1
  have hmbd := monB_bounds hmb
  obtain ⟨w7, hw7⟩ : ∃ w7, w6.alloc (.cells #[.int .i64 m.sig, .int .i64 m.low, .int .i64 m.high, .int .i64 m.up, .int .i64 m.down, .int .i64 m.limit, .int .i64 m.heal] 44) = w7 := ⟨_, rfl⟩
  have hh7 := heap_alloc_new w6 (.cells #[.int .i64 m.sig, .int .i64 m.low, .int .i64 m.high, .int .i64 m.up, .int .i64 m.down, .int .i64 m.limit, .int .i64 m.heal] 44)
  have hb7 : Below w.heap.size w w7 := by rw [← hw7]; exact HB6.out.alloc HB6.out.size _
  have hs7 : w7.heap.size = w6.heap.size + 1 := by rw [← hw7]; simp
  rw [hw7] at hh7 ⊢
  clear hw7 m0 m1 m2 m3 m4 m5 m6
  have m0 := row_cell hh7 0
  have m2 := row_cell hh7 2
  have m3 := row_cell hh7 3
  have m5 := row_cell hh7 5
  simp only [List.getElem?_toArray, List.getElem?_cons_succ, List.getElem?_cons_zero] at m0 m2 m3 m5
  have HM7 := Lib.hid hh7
  have HB7 := Lib.hid hb7
  have HMX := Lib.hid hm
  have HS7 := Lib.hid hs7
  clear hh7 hb7 hm hs7 hmb HB6
  by_cases g1 : (row.length : Int) ≤ m.sig
  · have g1' : decide ((row.length : Int) ≤ m.sig) = true := decide_eq_true g1
    go_wp2_with (go_at_call 18; refine (HW.out _ HB7.out).mono ?_; rintro e w8 ⟨rfl, hb8⟩)
    go_ret
    exact ⟨rfl, HB7.out.trans (hb8.mono HB7.out.size)⟩
  have g1' : decide ((row.length : Int) ≤ m.sig) = false := decide_eq_false g1
  by_cases g2 : m.high = 1000000
  · have g2' : (m.high == 1000000) = true := by simpa using g2
    go_wp2_with (go_at_call 18; refine (HW.out _ HB7.out).mono ?_; rintro e w8 ⟨rfl, hb8⟩)
    go_ret
    exact ⟨rfl, HB7.out.trans (hb8.mono HB7.out.size)⟩
  have g2' : (m.high == 1000000) = false := by simpa using g2
  have hhi : -1000000 ≤ m.high ∧ m.high ≤ 1000000 ∧ m.low ≤ m.high := by
    have h9 := (mon_ok HMB.out HMX.out).1
    unfold monB at h9
    simp only [Bool.and_eq_true, Bool.not_eq_true', decide_eq_false_iff_not] at h9
    omega
  obtain ⟨sn, hsn⟩ : ∃ n : Nat, m.sig = n := ⟨m.sig.toNat, by omega⟩
  have hsr : sn < row.length := by omega
  rw [hsn] at m0 g1'
  have HSN := Lib.hid hsn
  obtain ⟨hv, hhv⟩ : ∃ v, m.high = v := ⟨_, rfl⟩
  rw [hhv] at m2 g2' hhi
  have HHV := Lib.hid hhv
  have hhx : hv ≠ 1000000 := by rw [← hhv]; exact g2
  obtain ⟨up, hup⟩ : ∃ v, m.up = v := ⟨_, rfl⟩
  obtain ⟨lim, hlim⟩ : ∃ v, m.limit = v := ⟨_, rfl⟩
  rw [hup] at m3
  rw [hlim] at m5
  rw [hup, hlim] at hmbd
  have HUP := Lib.hid hup
  have HLIM := Lib.hid hlim
  have hupb := hmbd.2.1
  have hlimb := hmbd.2.2.2.1
  clear hsn hhv hup hlim hmbd g1 g2
  have HI7 := Lib.hid (HR.out w7 HB7.out)
  have hbt : w6.heap.size < w7.heap.size := by have := HS7.out; omega
  go_upto_region 8 with (at_builtin; refine wpl_app_list _ rfl _ _ rfl R rc row rfl rfl HI7.out ⟨r0, by omega⟩ ?_; intro g cap w8 hO8 hc8 hg8 hl8; have HO8 := Lib.hid hO8; have HB8 : Hid (Below w7.heap.size w7 w8) := (Below.refl w7.heap.size w7).grown hg8 (Nat.le_refl _) (fun k hk => by cases hk); have n0 := (bcell HB8.out _ 0 hbt).trans m0; have n2 := (bcell HB8.out _ 2 hbt).trans m2; have n3 := (bcell HB8.out _ 3 hbt).trans m3; have n5 := (bcell HB8.out _ 5 hbt).trans m5; obtain ⟨q0, y0⟩ := hO8.cellI hsr; have HM0 := Lib.hid m0; have HM2 := Lib.hid m2; have HM3 := Lib.hid m3; have HM5 := Lib.hid m5; clear hO8 hg8 m0 m2 m3 m5)
  have hgb := own_block_lt HO8.out g rfl
  have hgw : g ≠ w6.heap.size := by have := HS7.out; omega
  go_upto_region 9 with fail
  obtain ⟨w9, hw9⟩ : ∃ w9, w8.setCell ⟨g, sn, none⟩ (.int .i64 (hv + 1)) = w9 := ⟨_, rfl⟩
  have hO9 := HO8.out.setAt sn (hv + 1)
  have hb9 : Below w7.heap.size w7 w9 := by rw [← hw9]; exact HB8.out.setCell (p := ⟨g, sn, none⟩) hgb.1 _
  rw [hw9] at hO9 ⊢
  clear hw9
  clear n0 n2 n3 n5 q0 y0
  have n3 := (bcell hb9 _ 3 hbt).trans HM3.out
  have n5 := (bcell hb9 _ 5 hbt).trans HM5.out
  have HO9 := Lib.hid hO9
  have HB9 := Lib.hid hb9
  clear hO9 hb9 HO8 HB8
  go_upto_region 10 with fail
  obtain ⟨k, hk, hk1, hk2⟩ := up_of hupb.1 hlimb.1
  obtain ⟨n, hn⟩ : ∃ n, k + 1 = n := ⟨_, rfl⟩
  rw [hn] at hk
  rw [hk]
  have HN := Lib.hid hn
  have hn1 : (n : Int) - 1 = (k : Int) := by omega
  have hkn : k < n := by omega
  have hn0 : 0 < n := by omega
  have HK1 := Lib.hid hk1
  have HK2 := Lib.hid hk2
  have hk1000 : k < 1000 := by
    have := Int.mul_le_mul_of_nonneg_left hupb.1 (show (0 : Int) ≤ (k : Int) by omega)
    omega
  have hn1000 : n ≤ 1000 := by omega
  clear hk hk1 hk2 n3 n5 hn HM0 HM2 HM3 HM5 HI7
  have HB9w : Hid (Below w.heap.size w w9) := HB7.out.trans (HB9.out.mono HB7.out.size)
  by_cases g3 : 60 < n
  · have g3' : decide ((60 : Int) < ((n : Nat) : Int)) = true := decide_eq_true (by omega)
    go_wp2_with (go_at_call 18; refine (HW.out _ HB9w.out).mono ?_; rintro e w8 ⟨rfl, hb8⟩)
    go_ret
    exact ⟨rfl, HB9w.out.trans (hb8.mono HB9w.out.size)⟩
  have g3' : decide ((60 : Int) < ((n : Nat) : Int)) = false := decide_eq_false (by omega)
  obtain ⟨own, hown⟩ : ∃ own, row.set sn (hv + 1) = own := ⟨_, rfl⟩
  rw [hown] at HO9
  have hrl : row.length = own.length := by rw [← hown, List.length_set]
  have HOW : Hid (own.getD sn 0 = hv + 1) := by
    show _ = _
    rw [← hown, List.getD_eq_getElem?_getD, List.getElem?_set_self hsr]
    rfl
  rw [hrl]
  rw [hrl] at HO9
  have hc9 : own.length ≤ cap := by omega
  clear hown hrl r0 r1 z1 z2 hsr hc8 g1' HM7 HB7 HS7 hgw hbt hhi hhx g2' HR hgb
  go_wp2_with fail
  go_loopw [10, 11] (fun v10 v11 wr => ∃ j : Nat, j ≤ n ∧ v11 = .int .i64 j ∧ Hid (RepS wr w9.heap.size v10 j (.slice (some ⟨g, 0, none⟩) own.length cap)) ∧ Hid (Below w9.heap.size w9 wr)) (fun _ v11 _ => n - (intOf v11).toNat)
  case atStart => exact ⟨0, Nat.zero_le _, rfl, World.ownsRow_nil _ _ _ _, Below.refl _ _⟩
  case round =>
    obtain ⟨j, hj, rfl, HRP, HBR⟩ := hrel
    rename World => wr
    have hc9 := hc9
    by_cases hlt : j < n
    · obtain ⟨AV, cV, hV, hVc, hVf⟩ := HRP.out.form
      subst hV
      have HRQ : Hid (RepS (wr.alloc (.cells #[.slice (some ⟨g, 0, none⟩) own.length cap] 24)) w9.heap.size (.slice AV j cV) j (.slice (some ⟨g, 0, none⟩) own.length cap)) := World.ownsRow.alloc HRP.out _
      have hs9 : w9.heap.size ≤ (wr.alloc (.cells #[.slice (some ⟨g, 0, none⟩) own.length cap] 24)).heap.size := by have := HBR.out.size; simp; omega
      clear hVf HRP hn1
      go_wp2_with (at_builtin; refine app_rep _ rfl _ _ rfl w9.heap.size (.slice AV j cV) j (.slice (some ⟨g, 0, none⟩) own.length cap) rfl rfl HRQ.out wr.heap.size rfl (newcell _ _ _ _) (by omega) hs9 ?_; intro V6 w10 hO10 hg10)
      go_roundw
      case rel =>
        refine ⟨j + 1, by omega, by go_num, hO10, ?_⟩
        exact (HBR.out.alloc HBR.out.size _).grown hg10 (Nat.le_trans HBR.out.size (by simp)) (fun q hq => (own_block_lt HRQ.out q hq).1)
      case measure => simp [intOf]; omega
    · obtain rfl : n = j := by omega
      obtain ⟨AV, cV, hV, hVc, hVf⟩ := HRP.out.form
      obtain ⟨gV, hVg, hgV, hgVl⟩ := hVf hn0
      subst hV
      subst hVg
      clear hVf
      have HOR : Hid (OutI wr w7.heap.size (.slice (some ⟨g, 0, none⟩) own.length cap) own) := HO9.out.keepB (fun q hq => HBR.out.block q (own_block_lt HO9.out q hq).2)
      have HIO : Hid (∀ wx, Below wr.heap.size wr wx → IntsA wx wx.heap.size (some ⟨g, 0, none⟩) own) := fun wx hb => by
        obtain ⟨A, c, e, _, hI⟩ := HOR.out.reads
        injection e with e1 e2 e3
        rw [← e1] at hI
        exact (hI.keep hb).more hb.size
      have HRR : Hid (∀ j, j ≤ n → ∀ wx, Below wr.heap.size wr wx → RowsA wx wx.heap.size (some ⟨gV, 0, none⟩) (List.replicate j own)) := fun i hi wx hb => by
        have h1 := own_below HRP.out hb (fun q hq => (own_block_lt HRP.out q hq).2)
        exact RepS.rows (w := wx) (base := w9.heap.size) (k := n) h1 hn1000 (HIO.out wx hb) hc9 hi
      have HB1 : Hid (∀ wx, Below wr.heap.size wr wx → Below w.heap.size w wx) := fun wx hb => HB9w.out.trans ((HBR.out.trans (hb.mono HBR.out.size)).mono HB9w.out.size)
      clear HO9 HRP HOR HB9 hgV hgVl
      have hlk : (List.replicate k own).length = k := List.length_replicate
      have hln : (List.replicate n own).length = n := List.length_replicate
      have HC1 : Hid (∀ wx, Below wr.heap.size wr wx → Calls Tryd.prog 15 #[.slice (some ⟨b, off, none⟩) l.length lc, .slice (some ⟨gV, 0, none⟩) k cV] wx (WatchV wx l (List.replicate k own))) := fun wx hb => by
        have h1 := watch_of (some ⟨b, off, none⟩) lc l (some ⟨gV, 0, none⟩) cV (List.replicate k own) wx (HM.out wx (HB1.out wx hb)) (HRR.out k (by omega) wx hb)
        rw [hlk] at h1
        exact h1.mono fun e w' h => watch_v (by rw [hlk]; exact h)
      have HC2 : Hid (∀ wx, Below wr.heap.size wr wx → Calls Tryd.prog 15 #[.slice (some ⟨b, off, none⟩) l.length lc, .slice (some ⟨gV, 0, none⟩) n cV] wx (WatchV wx l (List.replicate n own))) := fun wx hb => by
        have h1 := watch_of (some ⟨b, off, none⟩) lc l (some ⟨gV, 0, none⟩) cV (List.replicate n own) wx (HM.out wx (HB1.out wx hb)) (HRR.out n (Nat.le_refl _) wx hb)
        rw [hln] at h1
        exact h1.mono fun e w' h => watch_v (by rw [hln]; exact h)
      clear hlk hln HRR
      obtain ⟨T1, hT1⟩ : ∃ T, endT l (List.replicate k own) = T := ⟨_, rfl⟩
      obtain ⟨S1, hS1⟩ : ∃ S, endS l (List.replicate k own) = S := ⟨_, rfl⟩
      obtain ⟨E1, hE1⟩ : ∃ r, watchE l (List.replicate k own) = r := ⟨_, rfl⟩
      obtain ⟨T2, hT2⟩ : ∃ T, endT l (List.replicate n own) = T := ⟨_, rfl⟩
      obtain ⟨S2, hS2⟩ : ∃ S, endS l (List.replicate n own) = S := ⟨_, rfl⟩
      obtain ⟨E2, hE2⟩ : ∃ r, watchE l (List.replicate n own) = r := ⟨_, rfl⟩
      unfold WatchV at HC1 HC2
      rw [hT1, hS1, hE1] at HC1
      rw [hT2, hS2, hE2] at HC2
      have HS1 := Lib.hid hS1
      have HE1 := Lib.hid hE1
      have HS2 := Lib.hid hS2
      have HE2 := Lib.hid hE2
      clear hT1 hS1 hE1 hT2 hS2 hE2
      have hbw := HBR.out
      clear hc9 hj hlt g3 hbw
      by_cases hz : E2 = 0
      · subst hz
        obtain rfl : E1 = 0 := by
          rw [← HE1.out]
          have h9 := HE2.out
          rw [← HN.out] at h9
          exact watchE_less h9
        go_wp2_with (first
          | (go_at_call 15; (with_reducible refine (HC1.out wr (Below.refl _ _)).mono ?_); rintro e wa ⟨⟨v, rfl, hMv⟩, hba⟩; obtain ⟨P1, c1, P2, c2, P3, c3, rfl, hMq⟩ := hMv; have HMA := Lib.hid hMq.2.2.1; have HBA := Lib.hid hba; clear hMq hba)
          | (go_at_call 15; (with_reducible refine (HC2.out _ (HBA.out.alloc HBA.out.size _)).mono ?_); rintro e wb ⟨⟨v, rfl, hMv⟩, hbb⟩; obtain ⟨O1, d1, O2, d2, O3, d3, rfl, hMq⟩ := hMv; have HMB2 := Lib.hid hMq.2.2.1; have HBB := Lib.hid hbb; clear hMq hbb))
        obtain ⟨W8, hW8⟩ : ∃ W8, wb.alloc (.cells #[.int .i64 T2, .slice O1 S2.ns.length d1, .slice O2 S2.cs.length d2, .slice O3 S2.ks.length d3] 27) = W8 := ⟨_, rfl⟩
        have hs8 : W8.heap.size = wb.heap.size + 1 := by rw [← hW8]; simp
        have hb8 : Below wb.heap.size wb W8 := by rw [← hW8]; exact (Below.refl _ _).alloc (Nat.le_refl _) _
        have hn8 : W8.heap[wb.heap.size]? = some (.cells #[.int .i64 T2, .slice O1 S2.ns.length d1, .slice O2 S2.cs.length d2, .slice O3 S2.ks.length d3] 27 (0, 0)) := by rw [← hW8]; exact heap_alloc_new _ _
        have hsa : wa.heap.size + 1 ≤ wb.heap.size := by have := HBB.out.size; simpa using this
        have hn7 : W8.heap[wa.heap.size]? = some (.cells #[.int .i64 T1, .slice P1 S1.ns.length c1, .slice P2 S1.cs.length c2, .slice P3 S1.ks.length c3] 27 (0, 0)) := (hb8.block _ (by omega)).trans ((HBB.out.block _ (by simp)).trans (heap_alloc_new wa _))
        have hba8 : Below wa.heap.size wa W8 := ((Below.refl _ _).alloc (Nat.le_refl _) _).trans (HBB.out.mono (by simp)) |>.trans (hb8.mono (by omega))
        rw [hW8]
        clear hW8
        have HB8 : Hid (Below wr.heap.size wr W8) := HBA.out.trans (hba8.mono HBA.out.size)
        have HK1C : Hid (∀ wx, Below W8.heap.size W8 wx → wx.cell? ⟨wa.heap.size, 3, none⟩ = some (.slice P3 S1.ks.length c3) ∧ CodesA wx wx.heap.size P3 S1.ks) := fun wx hb => ⟨(bcell hb _ _ (by omega)).trans (row_cell hn7 3), by
          have h1 := hba8.trans (hb.mono (by omega))
          exact (HMA.out.keep h1).more h1.size⟩
        have HK2C : Hid (∀ wx, Below W8.heap.size W8 wx → wx.cell? ⟨wb.heap.size, 3, none⟩ = some (.slice O3 S2.ks.length d3) ∧ CodesA wx wx.heap.size O3 S2.ks) := fun wx hb => ⟨(bcell hb _ _ (by omega)).trans (row_cell hn8 3), by
          have h1 := hb8.trans (hb.mono (by omega))
          exact (HMB2.out.keep h1).more h1.size⟩
        have hq1 : S1.ks.length ≤ 1000000 := HMA.out.1
        have hq2 : S2.ks.length ≤ 1000000 := HMB2.out.1
        have hkm1 : S1.ks.length ≤ maxLen := Nat.le_trans (show S1.ks.length ≤ 1000000 from HMA.out.1) (by decide)
        have hkm2 : S2.ks.length ≤ maxLen := Nat.le_trans (show S2.ks.length ≤ 1000000 from HMB2.out.1) (by decide)
        have hgx : l.getD x dMon = m := by rw [List.getD_eq_getElem?_getD, HMX.out]; rfl
        have ho9 : own.getD (l.getD x dMon).sig.toNat 0 = (l.getD x dMon).high + 1 := by
          rw [hgx, HSN.out, HHV.out]
          exact HOW.out
        have hu9 : (k : Int) * (l.getD x dMon).up < (l.getD x dMon).limit := by rw [hgx, HUP.out, HLIM.out]; exact HK1.out
        have hv9 : (l.getD x dMon).limit ≤ (k : Int) * (l.getD x dMon).up + (l.getD x dMon).up := by rw [hgx, HUP.out, HLIM.out]; exact HK2.out
        have hrep : ∀ q j, j < q → (List.replicate q own).getD j [] = own := fun q j hj => by rw [List.getD_eq_getElem?_getD, List.getElem?_replicate, if_pos hj]; rfl
        have HNO : Hid (∀ i, i < S1.ks.length → (S1.ks.getD i dCode).mon ≠ (x : Int)) := by
          have h1 := (perM_of (sets_low HMB.out hxl ho9 (List.replicate k own) k (hrep k) hu9)).2.2
          have h2 : endS l (List.replicate k own) = watchOf l (List.replicate k own) k := by unfold endS; rw [if_pos HE1.out, List.length_replicate]
          rw [← h2, HS1.out] at h1
          exact fun i hi => kOf_none h1 hi
        obtain ⟨p, hp, hpc, HPO⟩ : ∃ p, p < S2.ks.length ∧ S2.ks.getD p dCode = ⟨x, k, k, 1, own, true⟩ ∧ Hid (∀ i, i < S2.ks.length → i ≠ p → (S2.ks.getD i dCode).mon ≠ (x : Int)) := by
          have h1 := sets_top HMB.out hxl ho9 (List.replicate n own) k (by rw [HN.out]; exact hrep n) hu9 hv9
          have h2 : endS l (List.replicate n own) = watchOf l (List.replicate n own) (k + 1) := by unfold endS; rw [if_pos HE2.out, List.length_replicate, HN.out]
          rw [← h2, HS2.out] at h1
          have h3 : AscC S2.ks := by
            have h4 := (SOk.watched HMB.out (List.replicate n own) (k + 1)).ascC hl20
            rw [← h2, HS2.out] at h4
            exact h4
          obtain ⟨p, q1, q2, _, q4⟩ := kOf_place h3 h1
          exact ⟨p, q1, q2, q4⟩
        have HPC := Lib.hid hpc
        have HX1 : Hid (∀ wx, Below W8.heap.size W8 wx → Below w.heap.size w wx) := fun wx hb => HB1.out wx (HB8.out.trans (hb.mono HB8.out.size))
        have HX2 : Hid (∀ wx, Below W8.heap.size W8 wx → IntsA wx wx.heap.size (some ⟨g, 0, none⟩) own) := fun wx hb => HIO.out wx (HB8.out.trans (hb.mono HB8.out.size))
        clear hs8 hb8 hn8 hsa hn7 hba8 hgx ho9 hu9 hv9 hrep hpc HMA HMB2 HBA HBB HN HS1 HE1 HS2 HE2 HK1 HK2 HSN HHV HUP HLIM HOW HMX HC1 HC2 HB1 HIO HBR HB8 HM
        go_loopw [16] (fun v16 wx => ∃ i : Nat, i ≤ S1.ks.length ∧ v16 = .int .i64 i ∧ Hid (Below W8.heap.size W8 wx)) (fun v16 _ => S1.ks.length - (intOf v16).toNat)
        case atStart => exact ⟨0, Nat.zero_le _, rfl, Below.refl _ _⟩
        case round =>
          obtain ⟨i, hi, rfl, HBX⟩ := hrel
          rename World => wx
          obtain ⟨k3, hCA⟩ := HK1C.out wx HBX.out
          by_cases hlt : i < S1.ks.length
          · obtain ⟨f, cb, co, Ap, cp, hf, hA, hcb, e0, _⟩ := hCA.at_ hlt
            subst hA
            have hne := HNO.out i hlt
            rw [hf] at hne
            have hne' : (f.mon == (x : Int)) = false := by simpa using hne
            have HLT := Lib.hid hlt
            clear hf hne hCA
            go_wp2_with fail
            go_roundw
            case rel => exact ⟨i + 1, HLT.out, by go_num, HBX⟩
            case measure => simp [intOf]; have := HLT.out; omega
          · obtain rfl : S1.ks.length = i := by omega
            clear hCA
            go_wp2_with fail
            clear k3 HK1C HNO hkm1
            have hp0 : decide (p < 0) = false := by simp
            go_loopw [17, 18] (fun v17 v18 wy => ∃ i : Nat, i ≤ S2.ks.length ∧ v18 = .int .i64 i ∧ v17 = .bool (decide (p < i)) ∧ Hid (Below W8.heap.size W8 wy)) (fun _ v18 _ => S2.ks.length - (intOf v18).toNat)
            case atStart => exact ⟨0, Nat.zero_le _, rfl, by rw [hp0], HBX⟩
            case round =>
              clear hp0 HBX
              obtain ⟨i, hi2, rfl, rfl, HBY⟩ := hrel
              rename World => wy
              obtain ⟨k4, hCA⟩ := HK2C.out wy HBY.out
              by_cases hlt : i < S2.ks.length
              · obtain ⟨f, cb, co, Ap, cp, hf, hA, hcb, e0, e1, e2, e3, e4, e5, hfc, hIf⟩ := hCA.at_ hlt
                subst hA
                by_cases hip : i = p
                · subst hip
                  rw [HPC.out] at hf
                  subst hf
                  dsimp only at e0 e1 e2 e3 e4 e5 hIf hfc
                  have HIF := Lib.hid hIf
                  have hxx : ((x : Int) == (x : Int)) = true := by simp
                  have hkk : ((k : Int) == (k : Int)) = true := by simp
                  have HLT := Lib.hid hlt
                  have hpi : decide (i < i + 1) = true := decide_eq_true (by omega)
                  clear hIf hCA HPO HPC
                  have HAL : Hid (∀ o : Obj, Below W8.heap.size W8 (wy.alloc o)) := fun o => HBY.out.alloc HBY.out.size o
                  go_wp2_with (go_at_call 24; refine (same_ints Ap (some ⟨g, 0, none⟩) cp cap own own _ (IntsA.alloc' HIF.out _) (HX2.out _ (HAL.out _)) (decide_eq_true rfl)).mono ?_; rintro e wz ⟨rfl, hbz⟩; have HBZ := Lib.hid ((HAL.out _).trans (hbz.mono (HAL.out _).size)); clear hbz)
                  go_roundw
                  case rel => exact ⟨i + 1, HLT.out, by go_num, by rw [hpi], HBZ.out⟩
                  case measure => simp [intOf]; have := HLT.out; omega
                · have hne := HPO.out i hlt hip
                  rw [hf] at hne
                  have hne' : (f.mon == (x : Int)) = false := by simpa using hne
                  have hpd : decide (p < i + 1) = decide (p < i) := by
                    rw [Bool.eq_iff_iff]; simp; omega
                  have HLT := Lib.hid hlt
                  clear hf hne hCA hIf
                  go_wp2_with fail
                  go_roundw
                  case rel => exact ⟨i + 1, HLT.out, by go_num, by rw [hpd], HBY.out.alloc HBY.out.size _⟩
                  case measure => simp [intOf]; have := HLT.out; omega
              · obtain rfl : S2.ks.length = i := by omega
                have hpd : decide (p < S2.ks.length) = true := decide_eq_true hp
                clear hCA
                go_wp2_with (go_at_call 18; refine (HW.out _ (HX1.out _ HBY.out)).mono ?_; rintro e w7 ⟨rfl, hb7⟩)
                go_ret
                exact ⟨rfl, (HX1.out _ HBY.out).trans (hb7.mono (HX1.out _ HBY.out).size)⟩
      · have hz' : (E2 == 0) = false := by simpa using hz
        go_wp2_with (first
          | (go_at_call 15; (with_reducible refine (HC1.out wr (Below.refl _ _)).mono ?_); rintro e wa ⟨⟨v, rfl, hMv⟩, hba⟩; obtain ⟨P1, c1, P2, c2, P3, c3, rfl, _⟩ := hMv; have HBA := Lib.hid hba; clear hba)
          | (go_at_call 15; (with_reducible refine (HC2.out _ (HBA.out.alloc HBA.out.size _)).mono ?_); rintro e wb ⟨⟨v, rfl, hMv⟩, hbb⟩; obtain ⟨O1, d1, O2, d2, O3, d3, rfl, _⟩ := hMv; have HBB := Lib.hid ((HBA.out.alloc HBA.out.size _).trans (hbb.mono (HBA.out.alloc HBA.out.size _).size)); clear hbb)
          | (go_at_call 18; refine (HW.out _ (HB1.out _ (HBB.out.alloc HBB.out.size _))).mono ?_; rintro e wz ⟨rfl, hbz⟩))
        go_ret
        exact ⟨rfl, (HB1.out _ (HBB.out.alloc HBB.out.size _)).trans (hbz.mono (HB1.out _ (HBB.out.alloc HBB.out.size _)).size)⟩
end Go.Proofs.YtonpemikodajdaaDoor
