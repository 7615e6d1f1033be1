/- Walk: the reference's Watch. -/
import Derived.Test.YtonpemikodajdaaDoorMk
import Derived.Test.YtonpemikodajdaaDoorMl
namespace Go.Proofs.YtonpemikodajdaaDoor
open Go.RowKit

theorem FrOk.watched {l : List MMon} (hm : monsB l = true) {rs : List (List Int)} (hl : rs.all (lawB l) = true) : ∀ k, k ≤ rs.length → FrOk (watchOf l rs k)
  | 0, _ => fun c hc => by cases hc
  | k + 1, hk => FrOk.ticked (FrOk.watched hm hl k (by omega)) (SOk.watched hm rs k) hm (List.all_eq_true.1 hl _ (by rw [List.getD_eq_getElem?_getD, List.getElem?_eq_getElem (show k < rs.length by omega)]; exact List.getElem_mem _))
def RWatchPost (w : World) (l : List MMon) (rs : List (List Int)) (e : Ending) (w' : World) : Prop :=
  Below w.heap.size w w' ∧ ((∃ r, watchE l rs = r ∧ r ≠ 0 ∧ e = .returned (.tuple #[zeroMem, .int .i64 r])) ∨
    (watchE l rs = 0 ∧ ∃ v, e = .returned (.tuple #[v, .int .i64 0]) ∧ MOwn w' w.heap.size v rs.length (watchOf l rs rs.length)))
theorem step_tick {ops : Array Oper} {o : Oper} {a : Act} {Q' : Act → World → Prop} {Q : Exit → Act → World → Prop} {E : Prop} (w : World) (hg : o.guard = none) (x y z : Operand) (ho : o.op = .call { callee := .value (.func 56), args := #[x, y, z], argTypes := #[22, 27, 24] }) (v : Value) (t : Int) (s : WSt) (A : Option Addr) (lc : Nat) (l : List MMon) (R : Option Addr) (rc : Nat) (row : List Int)
    (hx : a.eval x = .slice A l.length lc) (hy : a.eval y = v) (hz : a.eval z = .slice R row.length rc) (hm : MemA w w.heap.size v t s) (h : MonsA w w.heap.size A l) (hr : IntsA w w.heap.size R row) (hs : SOk l s) (hf : FrOk s) (hmb : monsB l = true) (hlaw : lawB l row = true) (htk : 0 ≤ t ∧ t ≤ 1000000)
    (hK : ∀ v' w', MOwn w' w.heap.size v' (t + 1) (tickOf l t row s) → Below w.heap.size w w' → Q' (a.put o.dst v') w') :
    if Region.wanted o (yielded ops a.tmps) = true then Oper.wp Tryd.prog o a w Q' Q else E := by
  rw [if_pos (by simp [Region.wanted, hg])]
  have hC := tick_r v t s A lc l R rc row w hm h hr hs hf hmb hlaw htk
  have hf : a.eval (.func 56) = .func (.func 56) #[] #[] := rfl
  unfold Oper.wp execOp
  simp only [ho, resolve, invoke, Sem.run_bind, List.map_toArray, List.map_cons, List.map_nil, hx, hy, hz, hf]
  simp [go_sem]
  refine hC.mono ?_
  rintro e w2 ⟨v', rfl, hO, hb⟩
  exact hK v' w2 hO hb
set_option maxRecDepth 100000 in
set_option maxHeartbeats 4000000 in
theorem watch_r (A : Option Addr) (lc : Nat) (l : List MMon) (A2 : Option Addr) (rc : Nat) (rs : List (List Int)) (w : World) (h : MonsA w w.heap.size A l) (hr : RowsA w w.heap.size A2 rs) :
    Calls Tryd.prog 16 #[.slice A l.length lc, .slice A2 rs.length rc] w (RWatchPost w l rs) := by
  have hlenr := hr.1
  have hlenl := h.1
  unfold maxLen at hlenr hlenl
  obtain ⟨w1, hw1⟩ : ∃ w1, w1 = w.alloc (.cells #[.int .i64 0, .slice none 0 0, .slice none 0 0, .slice none 0 0] 27) := ⟨_, rfl⟩
  have hb1 : Below w.heap.size w w1 := by rw [hw1]; exact (Below.refl _ _).alloc (Nat.le_refl _) _
  have hs1 : w1.heap.size = w.heap.size + 1 := by rw [hw1]; simp
  have hh1 : w1.heap[w.heap.size]? = some (.cells #[.int .i64 0, .slice none 0 0, .slice none 0 0, .slice none 0 0] 27 (0, 0)) := by rw [hw1]; exact heap_alloc_new w _
  have hZ : ∀ wx, Below w1.heap.size w1 wx → wx.heap[w.heap.size]? = some (.cells #[.int .i64 0, .slice none 0 0, .slice none 0 0, .slice none 0 0] 27 (0, 0)) := fun wx hx => (hx.block w.heap.size (by omega)).trans hh1
  have HZ := Lib.hid hZ
  have HB1 := Lib.hid hb1
  have HMO := Lib.hid ((h.keep hb1).more hb1.size)
  have HRO : Hid (RowsA w1 w.heap.size A2 rs) := hr.keep hb1
  have HMC := Lib.hid (fun r (hr : checkM l = r) => rmcheck_any A lc l w1 ((h.keep hb1).more hb1.size) hr)
  have hwf := hw1.symm
  have HSZ := Lib.hid hs1
  clear h hr hb1 hw1 hh1 hZ
  by_cases hm : monsB l = true
  · have HM := Lib.hid hm
    have HC := Lib.hid (HMC.out 0 (by unfold checkM; rw [hm]; rfl))
    clear hm HMC
    by_cases hn : rs.length > 500
    · have HN := Lib.hid hn
      go_enter Tryd.func16, Tryd.ntmps16
      go_wp2_with (go_at_call 23; refine HC.out.mono ?_; rintro e w2 ⟨rfl, hb2⟩; have hz := HZ.out w2 hb2; have z0 := row_cell hz 0; have z1 := row_cell hz 1; have z2 := row_cell hz 2; have z3 := row_cell hz 3; have y0 := row_frozen hz 0; have y1 := row_frozen hz 1; have y2 := row_frozen hz 2; have y3 := row_frozen hz 3; simp only [List.getElem?_toArray, List.getElem?_cons_succ, List.getElem?_cons_zero] at z0 z1 z2 z3)
      (try simp only [Exit.then, Exit.inBlock])
      exact bodyPost_ret (results_mem2 rfl _ _ w.heap.size _ _ _ _ _ rfl (put4 hz) rfl) rfl ⟨below_put4 (HB1.out.trans (hb2.mono (by have := HSZ.out; omega))) (Nat.le_refl _) _ _ _ _, .inl ⟨2, by unfold watchE; rw [if_pos HM.out, if_pos HN.out], by decide, rfl⟩⟩
    · have HN := Lib.hid hn
      have hn' : rs.length ≤ 500 := by omega
      clear hn
      go_enter Tryd.func16, Tryd.ntmps16
      go_wp2_with (go_at_call 23; refine HC.out.mono ?_; rintro e w2 ⟨rfl, hb2⟩)
      go_loopw [7] (fun vi wr => ∃ k : Nat, k ≤ rs.length ∧ vi = .int .i64 k ∧ Hid (∀ (j : Nat) (row : List Int), j < k → rs[j]? = some row → lawB l row = true) ∧ Below w1.heap.size w1 wr) (fun vi _ => rs.length - (intOf vi).toNat)
      case atStart => exact ⟨0, Nat.zero_le _, rfl, (fun j row hj => by omega), hb2⟩
      case round =>
        clear hb2
        obtain ⟨k, hk, rfl, HI, hbw⟩ := hrel
        have hbw0 : Below w.heap.size w1 wr := hbw.mono (by omega)
        by_cases hlt : k < rs.length
        · obtain ⟨row, b, off, Ap, cp, ht, hAe, hbl, t0, hcp, hri⟩ := (HRO.out.keep hbw0).at_ hlt
          subst hAe
          have HT := Lib.hid ht
          have hwz : w.heap.size ≤ wr.heap.size := by have := hbw.size; omega
          rcases hq : lawB l row
          all_goals
            have HQ := Lib.hid hq
            have HL := Lib.hid (rlaw_any A lc l Ap cp row wr ((HMO.out.keep hbw).more hbw.size) (hri.more hwz) hq)
            clear hq
          · go_wp2_with (go_at_call 54; refine HL.out.mono ?_; rintro e w3 ⟨rfl, hb3⟩; have hB3 := hbw.trans (hb3.mono hbw.size); have hz := HZ.out _ hB3; have z0 := row_cell hz 0; have z1 := row_cell hz 1; have z2 := row_cell hz 2; have z3 := row_cell hz 3; have y0 := row_frozen hz 0; have y1 := row_frozen hz 1; have y2 := row_frozen hz 2; have y3 := row_frozen hz 3; simp only [List.getElem?_toArray, List.getElem?_cons_succ, List.getElem?_cons_zero] at z0 z1 z2 z3)
            (try simp only [Exit.then, Exit.inBlock])
            exact bodyPost_ret (results_mem2 rfl _ _ w.heap.size _ _ _ _ _ rfl (put4 hz) rfl) rfl ⟨below_put4 (HB1.out.trans (hB3.mono (by have := HSZ.out; omega))) (Nat.le_refl _) _ _ _ _, .inl ⟨1, by unfold watchE; rw [if_pos HM.out, if_neg HN.out, if_neg (by rw [all_no HT.out HQ.out]; decide)], by decide, rfl⟩⟩
          · go_wp2_with (go_at_call 54; refine HL.out.mono ?_; rintro e w3 ⟨rfl, hb3⟩)
            go_roundw
            case rel => exact ⟨k + 1, by omega, by go_num, upto_snoc HI.out HT.out HQ.out, hbw.trans (hb3.mono hbw.size)⟩
            case measure => simp [intOf]; omega
        · obtain rfl : k = rs.length := by omega
          have hall := all_yes HI.out
          have hl20 := monsB_len HM.out
          have HALL := Lib.hid hall
          have HB55 := Lib.hid (beg55 A lc l wr (by omega))
          clear hall HI
          go_wp2_with (go_at_call 55; refine HB55.out.mono ?_; rintro e w4 ⟨VC, VK, rfl, hMO4, hb4⟩; obtain ⟨A1, c1, A2', c2, A3, c3, e4, _⟩ := hMO4.mem (by simp [begOf]); injection e4 with e4; simp only [Array.mk.injEq, List.cons.injEq, and_true, true_and] at e4; obtain ⟨rfl, rfl, _⟩ := e4)
          obtain ⟨W5, hW5⟩ : ∃ W5, W5 = w4.alloc (.cells #[.int .i64 0, .slice A1 (begOf l).ns.length c1, .slice A2' (begOf l).cs.length c2, .slice none 0 0] 27) := ⟨_, rfl⟩
          rw [← hW5]
          have hB45 : Below w4.heap.size w4 W5 := by rw [hW5]; exact (Below.refl _ _).alloc (Nat.le_refl _) _
          have hB5 : Below w1.heap.size w1 W5 := (hbw.trans (hb4.mono hbw.size)).trans (hB45.mono (by have := hbw.size; have := hb4.size; omega))
          have HH5 : Hid (W5.heap[w4.heap.size]? = some (.cells #[.int .i64 0, .slice A1 (begOf l).ns.length c1, .slice A2' (begOf l).cs.length c2, .slice none 0 0] 27 (0, 0))) := by show _ = _; rw [hW5]; exact heap_alloc_new w4 _
          have HM5 : Hid (MOwn W5 w1.heap.size (.agg #[.int .i64 0, .slice A1 (begOf l).ns.length c1, .slice A2' (begOf l).cs.length c2, .slice none 0 0]) 0 (begOf l)) := (hMO4.below hB45 (Nat.le_refl _)).base hbw.size
          have hmb1 : w1.heap.size ≤ w4.heap.size := Nat.le_trans hbw.size hb4.size
          have HB5 := Lib.hid hB5
          clear hB5 hB45 hW5 hMO4 hb4 hbw hbw0 HB55
          generalize w4.heap.size = mb at *
          go_loopw [9] (fun vi wr => ∃ k : Nat, k ≤ rs.length ∧ vi = .int .i64 k ∧ (∃ A1 c1 A2 c2 A3 c3, Hid (MOwn wr w1.heap.size (.agg #[.int .i64 k, .slice A1 (watchOf l rs k).ns.length c1, .slice A2 (watchOf l rs k).cs.length c2, .slice A3 (watchOf l rs k).ks.length c3]) k (watchOf l rs k)) ∧
            Hid (wr.heap[mb]? = some (.cells #[.int .i64 k, .slice A1 (watchOf l rs k).ns.length c1, .slice A2 (watchOf l rs k).cs.length c2, .slice A3 (watchOf l rs k).ks.length c3] 27 (0, 0)))) ∧ Hid (Below w1.heap.size w1 wr)) (fun vi _ => rs.length - (intOf vi).toNat)
          case atStart => exact ⟨0, Nat.zero_le _, rfl, ⟨A1, c1, A2', c2, none, 0, HM5, HH5⟩, HB5⟩
          case round =>
            clear HB5 HM5 HH5 hlt hk
            obtain ⟨k, hk, rfl, ⟨A1, c1, A2q, c2, A3, c3, HMW, HHB⟩, HBW⟩ := hrel
            have hmblt := lt_of_block HHB.out
            have q0 := row_cell HHB.out 0
            have q1 := row_cell HHB.out 1
            have q2 := row_cell HHB.out 2
            have q3 := row_cell HHB.out 3
            simp only [List.getElem?_toArray, List.getElem?_cons_succ, List.getElem?_cons_zero] at q0 q1 q2 q3
            have hSk := SOk.watched HM.out rs k
            have hkb : (watchOf l rs k).ks.length ≤ 1000000 := by have := hSk.few hl20; omega
            by_cases hlt : k < rs.length
            · obtain ⟨row, b, off, Ap, cp, ht, hAe, hbl, t0, hcp, hri⟩ := (HRO.out.keep (HBW.out.mono (by have := HSZ.out; omega))).at_ hlt
              subst hAe
              have hrow : rs.getD k [] = row := by rw [List.getD_eq_getElem?_getD, ht]; rfl
              have hlaw : lawB l row = true := List.all_eq_true.1 HALL.out row (List.mem_of_getElem? ht)
              have hwx : watchOf l rs (k + 1) = tickOf l k row (watchOf l rs k) := by show tickOf l k (rs.getD k []) _ = _; rw [hrow]
              have HWX := Lib.hid hwx
              have HTM : Hid (MemA wr.drew wr.drew.heap.size (.agg #[.int .i64 k, .slice A1 (watchOf l rs k).ns.length c1, .slice A2q (watchOf l rs k).cs.length c2, .slice A3 (watchOf l rs k).ks.length c3]) k (watchOf l rs k)) := HMW.out.mem hkb
              have HMM : Hid (MonsA wr.drew wr.drew.heap.size A l) := (HMO.out.keep HBW.out).more HBW.out.size
              have hwz : w.heap.size ≤ wr.heap.size := by have := HBW.out.size; have := HSZ.out; omega
              have HRR : Hid (IntsA wr.drew wr.drew.heap.size Ap row) := (hri.more hwz).drewN 1
              have HSK := Lib.hid hSk
              have HFK := Lib.hid (FrOk.watched HM.out HALL.out k (by omega))
              have HHD : Hid (wr.drew.heap[mb]? = _) := HHB.out
              have htkb : (0 : Int) ≤ k ∧ (k : Int) ≤ 1000000 := by omega
              clear ht hri hSk hwx hrow
              go_wp2_with fail
              go_region_law ((refine step_tick _ (by rfl) _ _ _ (by rfl) _ k (watchOf l rs k) A lc l Ap cp row (by rfl) (by rfl) (by rfl) HTM.out HMM.out HRR.out HSK.out HFK.out HM.out hlaw htkb ?_; intro v7 w7 hO7 hb7; have hh7 := (hb7.block mb hmblt).trans HHD.out; obtain ⟨B1, d1, B2, d2, B3, d3, e7, _⟩ := hO7.mem (by have := (HSK.out.ticked HM.out k row).few hl20; omega); subst e7; have u0 := row_cell hh7 0; have u1 := row_cell hh7 1; have u2 := row_cell hh7 2; have u3 := row_cell hh7 3; have v0 := row_frozen hh7 0; have v1 := row_frozen hh7 1; have v2 := row_frozen hh7 2; have v3 := row_frozen hh7 3; simp only [List.getElem?_toArray, List.getElem?_cons_succ, List.getElem?_cons_zero] at u0 u1 u2 u3; have HO7 := Lib.hid hO7; have HB7 := Lib.hid hb7; have HH7 := Lib.hid hh7; clear hO7 hb7 hh7))
              all_goals
                have hk7 : ∀ b, wr.drew.heap.size ≤ b → b ≠ mb := fun b hb e => by
                  have h1 : wr.heap.size ≤ b := hb
                  omega
                have hMN := (HO7.out.keepH (w' := (((w7.setCell ⟨mb, 0, none⟩ (.int .i64 ((k : Int) + 1))).setCell ⟨mb, 1, none⟩ (.slice B1 (tickOf l k row (watchOf l rs k)).ns.length d1)).setCell ⟨mb, 2, none⟩ (.slice B2 (tickOf l k row (watchOf l rs k)).cs.length d2)).setCell ⟨mb, 3, none⟩ (.slice B3 (tickOf l k row (watchOf l rs k)).ks.length d3)) (fun b hb _ => heap_put4 (hk7 b hb) _ _ _ _) (by simp)).base (show w1.heap.size ≤ wr.drew.heap.size from HBW.out.size)
                have hBN : Below w1.heap.size w1 ((((w7.setCell ⟨mb, 0, none⟩ (.int .i64 ((k : Int) + 1))).setCell ⟨mb, 1, none⟩ (.slice B1 (tickOf l k row (watchOf l rs k)).ns.length d1)).setCell ⟨mb, 2, none⟩ (.slice B2 (tickOf l k row (watchOf l rs k)).cs.length d2)).setCell ⟨mb, 3, none⟩ (.slice B3 (tickOf l k row (watchOf l rs k)).ks.length d3)) :=
                  below_put4 (HBW.out.trans ((Below.refl wr.heap.size wr).drew.trans HB7.out |>.mono HBW.out.size)) hmb1 _ _ _ _
                have hHN := put4 (a' := .int .i64 ((k : Int) + 1)) (b' := .slice B1 (tickOf l k row (watchOf l rs k)).ns.length d1) (c' := .slice B2 (tickOf l k row (watchOf l rs k)).cs.length d2) (d' := .slice B3 (tickOf l k row (watchOf l rs k)).ks.length d3) HH7.out
                have HMN := Lib.hid hMN
                have HBN := Lib.hid hBN
                have HHN := Lib.hid hHN
                clear hMN hBN hHN u0 u1 u2 u3 v0 v1 v2 v3
                go_wp2_with fail
                go_roundw
                case rel =>
                  refine ⟨k + 1, by omega, by go_num, ⟨B1, d1, B2, d2, B3, d3, ?_, ?_⟩, HBN⟩
                  · rw [HWX.out]; push_cast; exact HMN
                  · rw [HWX.out]; push_cast; exact HHN
                case measure => simp [intOf]; omega
            · obtain rfl : k = rs.length := by omega
              have hz := HZ.out _ HBW.out
              have z0 := row_cell hz 0
              have z1 := row_cell hz 1
              have z2 := row_cell hz 2
              have z3 := row_cell hz 3
              have y0 := row_frozen hz 0
              have y1 := row_frozen hz 1
              have y2 := row_frozen hz 2
              have y3 := row_frozen hz 3
              simp only [List.getElem?_toArray, List.getElem?_cons_succ, List.getElem?_cons_zero] at z0 z1 z2 z3
              have HZZ := Lib.hid hz
              clear hz hSk hkb
              go_wp2_with fail
              (try simp only [Exit.then, Exit.inBlock])
              have hk9 : ∀ b, w1.heap.size ≤ b → b ≠ w.heap.size := fun b hb => by have := HSZ.out; omega
              refine bodyPost_ret (results_mem2 rfl _ _ w.heap.size _ _ _ _ _ rfl (put4 HZZ.out) rfl) rfl ⟨below_put4 (HB1.out.trans (HBW.out.mono (by have := HSZ.out; omega))) (Nat.le_refl _) _ _ _ _, .inr ⟨by unfold watchE; rw [if_pos HM.out, if_neg HN.out, if_pos HALL.out], _, rfl, ?_⟩⟩
              exact (HMW.out.keepH (fun b hb _ => heap_put4 (hk9 b hb) _ _ _ _) (by simp)).base (show w.heap.size ≤ w1.heap.size by have := HSZ.out; omega)
  · have HC := Lib.hid (HMC.out 100 (by unfold checkM; rw [if_neg hm]))
    have HM := Lib.hid hm
    clear hm HMC
    go_enter Tryd.func16, Tryd.ntmps16
    go_wp2_with (go_at_call 23; refine HC.out.mono ?_; rintro e w2 ⟨rfl, hb2⟩; have hz := HZ.out w2 hb2; have z0 := row_cell hz 0; have z1 := row_cell hz 1; have z2 := row_cell hz 2; have z3 := row_cell hz 3; have y0 := row_frozen hz 0; have y1 := row_frozen hz 1; have y2 := row_frozen hz 2; have y3 := row_frozen hz 3; simp only [List.getElem?_toArray, List.getElem?_cons_succ, List.getElem?_cons_zero] at z0 z1 z2 z3)
    (try simp only [Exit.then, Exit.inBlock])
    exact bodyPost_ret (results_mem2 rfl _ _ w.heap.size _ _ _ _ _ rfl (put4 hz) rfl) rfl ⟨below_put4 (HB1.out.trans (hb2.mono (by have := HSZ.out; omega))) (Nat.le_refl _) _ _ _ _, .inl ⟨100, by unfold watchE; rw [if_neg HM.out], by decide, rfl⟩⟩
end Go.Proofs.YtonpemikodajdaaDoor
