/- Walk: the law of Folded. -/
import Derived.Test.YtonpemikodajdaaDoorTl
import Derived.Test.YtonpemikodajdaaDoorMd
import Derived.Test.YtonpemikodajdaaDoorWk
import Derived.Deep.RegionLaw
import Derived.Deep.Cut
namespace Go.Proofs.YtonpemikodajdaaDoor
open Go.RowKit

theorem bdrw {B : Nat} {a w : World} (h : Below B a w) (n : Nat) : Below B a (w.drewN n) := ⟨h.os, h.tape, h.output, h.size, h.block⟩
theorem MemN.after {w w' : World} {B B' : Nat} {v : Value} {t : Int} {s : WSt} (h : MemN w B v t s) (hb : Below B' w w') (hB : w.heap.size ≤ B') : MemA w' w'.heap.size v t s := h w' hb.size fun b _ hl => hb.block b (by omega)
theorem step_tick_o {ops : Array Oper} {o : Oper} {a : Act} {Q' : Act → World → Prop} {Q : Exit → Act → World → Prop} {E : Prop} (w : World) (hg : o.guard = none) (x y z : Operand) (ho : o.op = .call { callee := .value (.func 35), args := #[x, y, z], argTypes := #[22, 27, 24] }) (v : Value) (t : Int) (s : WSt) (A : Option Addr) (lc : Nat) (l : List MMon) (R : Option Addr) (rc : Nat) (row : List Int)
    (hx : a.eval x = .slice A l.length lc) (hy : a.eval y = v) (hz : a.eval z = .slice R row.length rc) (hm : MemA w w.heap.size v t s) (h : MonsA w w.heap.size A l) (hr : IntsA w w.heap.size R row) (hE : tickE l t s row = 0)
    (hK : ∀ v' w', MemN w' w.heap.size v' (t + 1) (tickOf l t row s) → Below w.heap.size w w' → Q' (a.put o.dst (.tuple #[v', .int .i64 0])) w') :
    if Region.wanted o (yielded ops a.tmps) = true then Oper.wp Tryd.prog o a w Q' Q else E := by
  rw [if_pos (by simp [Region.wanted, hg])]
  have hC := tick_o A lc l v t s R rc row w h hm hr
  have hf : a.eval (.func 35) = .func (.func 35) #[] #[] := rfl
  unfold Oper.wp execOp
  simp only [ho, resolve, invoke, Sem.run_bind, List.map_toArray, List.map_cons, List.map_nil, hx, hy, hz, hf]
  simp [go_sem]
  refine hC.mono ?_
  rintro e w2 ⟨⟨v', rfl, hO⟩, hb⟩
  rw [hE]
  have h1 : tickT l t s row = t + 1 := by unfold tickT; rw [if_pos hE]
  have h2 : tickS l t s row = tickOf l t row s := by unfold tickS; rw [if_pos hE]
  rw [h1, h2] at hO
  exact hK v' w2 hO hb
theorem FOk.watched {l : List MMon} (hm : monsB l = true) {rs : List (List Int)} (hl : rs.all (lawB l) = true) : ∀ k : Nat, k ≤ rs.length → FOk l k (watchOf l rs k)
  | 0, _ => FOk.beg hm
  | k + 1, hk => by
    have h1 := FOk.tick hm (FOk.watched hm hl k (by omega)) (by omega) (row := rs.getD k []) (List.all_eq_true.1 hl _ (by rw [List.getD_eq_getElem?_getD, List.getElem?_eq_getElem (show k < rs.length by omega)]; exact List.getElem_mem _))
    exact h1
theorem watchE_yes {l : List MMon} {rs : List (List Int)} (h : watchE l rs = 0) : monsB l = true ∧ rs.all (lawB l) = true := by
  unfold watchE at h
  rcases hq : monsB l
  · rw [hq, if_neg (by decide)] at h; exact absurd h (by decide)
  · refine ⟨rfl, ?_⟩
    rw [if_pos hq] at h
    rcases hr : rs.all (lawB l)
    · rw [hr] at h
      split at h
      · exact absurd h (by decide)
      · exact absurd h (by decide)
    · rfl
/-- the next memory, in a block of its own -/
def NextW (wr : World) (l : List MMon) (rs : List (List Int)) (k : Nat) (nb : Nat) (wx : World) : Prop :=
  ∃ B1 e1 B2 e2 B3 e3, wx.heap[nb]? = some (.cells #[.int .i64 ((k : Int) + 1), .slice B1 (watchOf l rs (k + 1)).ns.length e1, .slice B2 (watchOf l rs (k + 1)).cs.length e2, .slice B3 (watchOf l rs (k + 1)).ks.length e3] 27 (0, 0)) ∧
    MemN wx wr.heap.size (.agg #[.int .i64 ((k : Int) + 1), .slice B1 (watchOf l rs (k + 1)).ns.length e1, .slice B2 (watchOf l rs (k + 1)).cs.length e2, .slice B3 (watchOf l rs (k + 1)).ks.length e3]) ((k : Int) + 1) (watchOf l rs (k + 1)) ∧ Below wr.heap.size wr wx ∧ wr.heap.size ≤ nb
section
variable {wr w7 : World} {l : List MMon} {rs : List (List Int)} {k : Nat} {B1 B2 B3 : Option Addr} {e1 e2 e3 : Nat}
theorem NextW.one (hN : MemN w7 wr.heap.size (.agg #[.int .i64 ((k : Int) + 1), .slice B1 (watchOf l rs (k + 1)).ns.length e1, .slice B2 (watchOf l rs (k + 1)).cs.length e2, .slice B3 (watchOf l rs (k + 1)).ks.length e3]) ((k : Int) + 1) (watchOf l rs (k + 1))) (hb : Below wr.heap.size wr w7) : NextW wr l rs k w7.heap.size (w7.alloc (.cells #[.int .i64 ((k : Int) + 1), .slice B1 (watchOf l rs (k + 1)).ns.length e1, .slice B2 (watchOf l rs (k + 1)).cs.length e2, .slice B3 (watchOf l rs (k + 1)).ks.length e3] 27)) :=
  ⟨B1, e1, B2, e2, B3, e3, heap_alloc_new w7 _, hN.moved (by simp) (fun b _ hl => Below.heap_alloc _ _ _ (by omega)), hb.alloc hb.size _, hb.size⟩
theorem NextW.two {a b c d : Value} (hN : MemN w7 (wr.heap.size + 1) (.agg #[.int .i64 ((k : Int) + 1), .slice B1 (watchOf l rs (k + 1)).ns.length e1, .slice B2 (watchOf l rs (k + 1)).cs.length e2, .slice B3 (watchOf l rs (k + 1)).ks.length e3]) ((k : Int) + 1) (watchOf l rs (k + 1))) (hb : Below wr.heap.size wr w7) (hh : w7.heap[wr.heap.size]? = some (.cells #[a, b, c, d] 27 (0, 0))) :
    NextW wr l rs k wr.heap.size ((((w7.setCell ⟨wr.heap.size, 0, none⟩ (.int .i64 ((k : Int) + 1))).setCell ⟨wr.heap.size, 1, none⟩ (.slice B1 (watchOf l rs (k + 1)).ns.length e1)).setCell ⟨wr.heap.size, 2, none⟩ (.slice B2 (watchOf l rs (k + 1)).cs.length e2)).setCell ⟨wr.heap.size, 3, none⟩ (.slice B3 (watchOf l rs (k + 1)).ks.length e3)) :=
  ⟨B1, e1, B2, e2, B3, e3, put4 hh, (hN.moved (by simp) (fun b hb _ => heap_put4 (by omega) _ _ _ _)).base (by omega), below_put4 hb (Nat.le_refl _) _ _ _ _, Nat.le_refl _⟩
end
set_option maxRecDepth 100000 in
set_option maxHeartbeats 4000000 in
theorem folded_any (A : Option Addr) (lc : Nat) (l : List MMon) (A2 : Option Addr) (rc : Nat) (rs : List (List Int)) (w : World) (h : MonsA w w.heap.size A l) (hr : RowsA w w.heap.size A2 rs) (hT : TabW w) :
    Calls Tryd.prog 9 #[.slice A l.length lc, .slice A2 rs.length rc] w fun e w' => e = .returned (.bool true) ∧ Below w.heap.size w w' := by
  have HW : Hid (∀ W, Below w.heap.size w W → Calls Tryd.prog 18 #[] W fun e w' => e = .returned (.bool true) ∧ Below W.heap.size W w') := fun W hW => works_any W (hT.keep hW)
  have hlr := hr.1
  unfold maxLen at hlr
  rcases Nat.lt_or_ge 100 rs.length with hbig | hsm
  · clear h hr hT
    go_enter Tryd.func9, Tryd.ntmps9
    go_wp2_with (go_at_call 18; refine (HW.out _ (Below.refl _ _)).mono ?_; rintro e w7 ⟨rfl, hb7⟩; have HB7 := Lib.hid hb7; clear hb7)
    go_ret
    exact ⟨rfl, HB7.out⟩
  have HC : Hid (Calls Tryd.prog 15 #[.slice A l.length lc, .slice A2 rs.length rc] w (WatchV w l rs)) := (watch_of A lc l A2 rc rs w h hr).mono fun e w' hP => watch_v hP
  have HM : Hid (∀ W, Below w.heap.size w W → MonsA W W.heap.size A l) := fun W hW => (h.keep hW).more hW.size
  have HR : Hid (∀ W, Below w.heap.size w W → RowsA W W.heap.size A2 rs) := fun W hW => (hr.keep hW).more hW.size
  obtain ⟨E, hE⟩ : ∃ r, watchE l rs = r := ⟨_, rfl⟩
  by_cases hz : E = 0
  · subst hz
    obtain ⟨hmb, hall⟩ := watchE_yes hE
    have hT0 : endT l rs = rs.length := by unfold endT; rw [if_pos hE]
    have hS0 : endS l rs = watchOf l rs rs.length := by unfold endS; rw [if_pos hE]
    have hc0 : checkM l = 0 := by unfold checkM; rw [if_pos hmb]
    have hg0 : begS l = watchOf l rs 0 := by unfold begS; rw [if_pos hmb]; rfl
    have HTT := Lib.hid hT0
    have HSS := Lib.hid hS0
    have HEE := Lib.hid hE
    have HCM := Lib.hid hc0
    have HBG := Lib.hid hg0
    have HMB := Lib.hid hmb
    have HALL := Lib.hid hall
    have hl20 := monsB_len hmb
    clear hT0 hS0 hE hc0 hg0 hmb hall h hr hT
    go_enter Tryd.func9, Tryd.ntmps9
    go_upto_region 7 with (first
      | (go_at_call 15; refine HC.out.mono ?_; rintro e wa ⟨⟨v, rfl, hMv⟩, hba⟩; rw [HEE.out]; rw [HTT.out, HSS.out] at hMv; obtain ⟨P1, c1, P2, c2, P3, c3, rfl, hMq⟩ := hMv; have HMA : Hid (MemA wa wa.heap.size (.agg #[.int .i64 rs.length, .slice P1 (watchOf l rs rs.length).ns.length c1, .slice P2 (watchOf l rs rs.length).cs.length c2, .slice P3 (watchOf l rs rs.length).ks.length c3]) rs.length (watchOf l rs rs.length)) := ⟨P1, c1, P2, c2, P3, c3, rfl, hMq⟩; have HBA := Lib.hid hba; clear hMq hba)
      | (go_at_call 33; refine (begin_o A lc l _ (HM.out _ (HBA.out.alloc HBA.out.size _))).mono ?_; rintro e wb ⟨⟨v, rfl, hN⟩, hbb⟩; rw [HCM.out]; rw [HBG.out] at hN; obtain ⟨O1, d1, O2, d2, O3, d3, rfl, _⟩ := hN.mem; have HN := Lib.hid hN; have HBB := Lib.hid hbb; clear hN hbb))
    obtain ⟨wA, hwA⟩ : ∃ wA, wa.alloc (.cells #[.int .i64 rs.length, .slice P1 (watchOf l rs rs.length).ns.length c1, .slice P2 (watchOf l rs rs.length).cs.length c2, .slice P3 (watchOf l rs rs.length).ks.length c3] 27) = wA := ⟨_, rfl⟩
    have hbA : Below wa.heap.size wa wA := by rw [← hwA]; exact (Below.refl _ _).alloc (Nat.le_refl _) _
    have hsA : wA.heap.size = wa.heap.size + 1 := by rw [← hwA]; simp
    have hnA : wA.heap[wa.heap.size]? = some (.cells #[.int .i64 rs.length, .slice P1 (watchOf l rs rs.length).ns.length c1, .slice P2 (watchOf l rs rs.length).cs.length c2, .slice P3 (watchOf l rs rs.length).ks.length c3] 27 (0, 0)) := by rw [← hwA]; exact heap_alloc_new wa _
    rw [hwA] at HBB HN
    obtain ⟨W8, hW8⟩ : ∃ W8, wb.alloc (.cells #[.int .i64 0, .slice O1 (watchOf l rs 0).ns.length d1, .slice O2 (watchOf l rs 0).cs.length d2, .slice O3 (watchOf l rs 0).ks.length d3] 27) = W8 := ⟨_, rfl⟩
    have hb8 : Below wb.heap.size wb W8 := by rw [← hW8]; exact (Below.refl _ _).alloc (Nat.le_refl _) _
    have hn8 : W8.heap[wb.heap.size]? = some (.cells #[.int .i64 0, .slice O1 (watchOf l rs 0).ns.length d1, .slice O2 (watchOf l rs 0).cs.length d2, .slice O3 (watchOf l rs 0).ks.length d3] 27 (0, 0)) := by rw [← hW8]; exact heap_alloc_new wb _
    have hmA : wA.heap.size ≤ wb.heap.size := HBB.out.size
    have HM8 : Hid (MemA W8 W8.heap.size (.agg #[.int .i64 0, .slice O1 (watchOf l rs 0).ns.length d1, .slice O2 (watchOf l rs 0).cs.length d2, .slice O3 (watchOf l rs 0).ks.length d3]) 0 (watchOf l rs 0)) := HN.out.after hb8 (Nat.le_refl _)
    have HH8 := Lib.hid hn8
    have HB8 : Hid (Below wA.heap.size wA W8) := HBB.out.trans (hb8.mono hmA)
    have HX : Hid (∀ W, Below wA.heap.size wA W → Below w.heap.size w W) := fun W hW => HBA.out.trans (hbA.trans (hW.mono (by omega)) |>.mono HBA.out.size)
    have HAL : Hid (∀ W, Below wA.heap.size wA W → W.heap[wa.heap.size]? = some (.cells #[.int .i64 rs.length, .slice P1 (watchOf l rs rs.length).ns.length c1, .slice P2 (watchOf l rs rs.length).cs.length c2, .slice P3 (watchOf l rs rs.length).ks.length c3] 27 (0, 0)) ∧ MemA W W.heap.size (.agg #[.int .i64 rs.length, .slice P1 (watchOf l rs rs.length).ns.length c1, .slice P2 (watchOf l rs rs.length).cs.length c2, .slice P3 (watchOf l rs rs.length).ks.length c3]) rs.length (watchOf l rs rs.length)) := fun W hW => ⟨(hW.block _ (by omega)).trans hnA, by
      have h1 := hbA.trans (hW.mono (by omega))
      exact (HMA.out.keep h1).more h1.size⟩
    have haA : wa.heap.size < wA.heap.size := by omega
    have HZ : Hid (w.heap.size ≤ wA.heap.size) := by have := HBA.out.size; show _ ≤ _; omega
    rw [hW8]
    clear hwA hW8 hbA hsA hnA hb8 hn8 HBB HN HMA HBA HC
    generalize wb.heap.size = mb at *
    generalize wa.heap.size = ab at *
    go_wp2_with fail
    go_loopw [9] (fun vi wr => ∃ k : Nat, k ≤ rs.length ∧ vi = .int .i64 k ∧ (∃ D1 d1 D2 d2 D3 d3, Hid (MemA wr wr.heap.size (.agg #[.int .i64 k, .slice D1 (watchOf l rs k).ns.length d1, .slice D2 (watchOf l rs k).cs.length d2, .slice D3 (watchOf l rs k).ks.length d3]) k (watchOf l rs k)) ∧ Hid (wr.heap[mb]? = some (.cells #[.int .i64 k, .slice D1 (watchOf l rs k).ns.length d1, .slice D2 (watchOf l rs k).cs.length d2, .slice D3 (watchOf l rs k).ks.length d3] 27 (0, 0)))) ∧ Hid (Below wA.heap.size wA wr)) (fun vi _ => rs.length - (intOf vi).toNat)
    case atStart => exact ⟨0, Nat.zero_le _, rfl, ⟨O1, d1, O2, d2, O3, d3, HM8, HH8⟩, HB8⟩
    case round =>
      clear HB8 HM8 HH8
      obtain ⟨k, hk, rfl, ⟨D1, d1, D2, d2, D3, d3, HMW, HHB⟩, HBW⟩ := hrel
      rename World => wr
      have hmblt := lt_of_block HHB.out
      have hwz : wA.heap.size ≤ wr.heap.size := HBW.out.size
      have q0 := row_cell HHB.out 0
      have q1 := row_cell HHB.out 1
      have q2 := row_cell HHB.out 2
      have q3 := row_cell HHB.out 3
      simp only [List.getElem?_toArray, List.getElem?_cons_succ, List.getElem?_cons_zero] at q0 q1 q2 q3
      by_cases hlt : k < rs.length
      · obtain ⟨row, b, off, Ap, cp, ht, hAe, hbl, t0, hcp, hri⟩ := (HR.out wr (HX.out _ HBW.out)).at_ hlt
        subst hAe
        have hrow : rs.getD k [] = row := by rw [List.getD_eq_getElem?_getD, ht]; rfl
        have hlaw : lawB l row = true := List.all_eq_true.1 HALL.out row (List.mem_of_getElem? ht)
        have hwx : watchOf l rs (k + 1) = tickOf l k row (watchOf l rs k) := by show tickOf l k (rs.getD k []) _ = _; rw [hrow]
        have hFO := FOk.watched HMB.out HALL.out k hk
        have hF1 := FOk.watched HMB.out HALL.out (k + 1) hlt
        have hE : tickE l k (watchOf l rs k) row = 0 := by unfold tickE; rw [if_pos HMB.out, if_pos ⟨FOk.fit HMB.out hFO (by omega), hlaw⟩]
        have HFI : Hid (fitB l ((k : Int) + 1) (watchOf l rs (k + 1)) = true) := FOk.fit HMB.out hF1 (by omega)
        have HLA : Hid (∀ c ∈ (watchOf l rs (k + 1)).ks, c.last = (k : Int) → c.active = true ∧ inB (row.getD (l.getD c.mon.toNat dMon).sig.toNat 0) (l.getD c.mon.toNat dMon).low (l.getD c.mon.toNat dMon).high = false) := fun c hc he => by
          rw [hwx] at hc
          exact hFO.last HMB.out hc he
        have HOK : Hid (∀ c ∈ (watchOf l rs (k + 1)).ks, 0 ≤ c.mon ∧ c.mon < l.length) := fun c hc => ⟨(hF1.ok.ok c hc).1.1, (hF1.ok.ok c hc).1.2⟩
        have HWX := Lib.hid hwx
        have HE := Lib.hid hE
        have HLW := Lib.hid hlaw
        have hk1 : ((k : Int) + 1 != (k : Int) + 1) = false := by simp
        have HTM : Hid (MemA wr.drew wr.drew.heap.size (.agg #[.int .i64 k, .slice D1 (watchOf l rs k).ns.length d1, .slice D2 (watchOf l rs k).cs.length d2, .slice D3 (watchOf l rs k).ks.length d3]) k (watchOf l rs k)) := HMW.out
        have HMM : Hid (MonsA wr.drew wr.drew.heap.size A l) := HM.out wr (HX.out _ HBW.out)
        have HRR : Hid (IntsA wr.drew wr.drew.heap.size Ap row) := hri
        have HHD : Hid (wr.drew.heap[mb]? = some (.cells #[.int .i64 k, .slice D1 (watchOf l rs k).ns.length d1, .slice D2 (watchOf l rs k).cs.length d2, .slice D3 (watchOf l rs k).ks.length d3] 27 (0, 0))) := HHB.out
        have HT0 : Hid (∀ W, Below wr.heap.size wr W → W.cell? ⟨b, off + k, none⟩ = some (.slice Ap row.length cp) ∧ IntsA W W.heap.size Ap row) := fun W hW => ⟨(bcell hW _ _ hbl).trans t0, (hri.keep hW).more hW.size⟩
        have HTK := Lib.hid ht
        have HDA : Hid (Below wr.heap.size wr (wr.drew.alloc (.cells #[.int .i64 0, .slice none 0 0, .slice none 0 0, .slice none 0 0] 27))) := ((Below.refl _ _).drew).alloc (Nat.le_refl _) _
        have HTM2 : Hid (MemA (wr.drew.alloc (.cells #[.int .i64 0, .slice none 0 0, .slice none 0 0, .slice none 0 0] 27)) (wr.drew.alloc (.cells #[.int .i64 0, .slice none 0 0, .slice none 0 0, .slice none 0 0] 27)).heap.size (.agg #[.int .i64 k, .slice D1 (watchOf l rs k).ns.length d1, .slice D2 (watchOf l rs k).cs.length d2, .slice D3 (watchOf l rs k).ks.length d3]) k (watchOf l rs k)) := (HMW.out.keep HDA.out).more HDA.out.size
        have HMM2 : Hid (MonsA (wr.drew.alloc (.cells #[.int .i64 0, .slice none 0 0, .slice none 0 0, .slice none 0 0] 27)) (wr.drew.alloc (.cells #[.int .i64 0, .slice none 0 0, .slice none 0 0, .slice none 0 0] 27)).heap.size A l) := HM.out _ (HX.out _ (HBW.out.trans (HDA.out.mono hwz)))
        have HRR2 : Hid (IntsA (wr.drew.alloc (.cells #[.int .i64 0, .slice none 0 0, .slice none 0 0, .slice none 0 0] 27)) (wr.drew.alloc (.cells #[.int .i64 0, .slice none 0 0, .slice none 0 0, .slice none 0 0] 27)).heap.size Ap row) := IntsA.more (IntsA.keep (w := wr) hri HDA.out) HDA.out.size
        have HNZ : Hid ((wr.drew.alloc (.cells #[.int .i64 0, .slice none 0 0, .slice none 0 0, .slice none 0 0] 27)).heap[wr.heap.size]? = some (.cells #[.int .i64 0, .slice none 0 0, .slice none 0 0, .slice none 0 0] 27 (0, 0))) := heap_alloc_new wr.drew _
        clear ht hri hrow hlaw hwx hFO hF1 hE
        go_wp2_with fail
        go_cut [10, 11] (fun v10 v11 wx => ∃ nb, v10 = .pointer (some ⟨nb, 0, none⟩) ∧ v11 = .int .i64 0 ∧ Hid (NextW wr l rs k nb wx))
        case first =>
          go_region_law (first
            | (refine step_tick_o wr.drew (by rfl) _ _ _ (by rfl) _ k (watchOf l rs k) A lc l Ap cp row (by rfl) (by rfl) (by rfl) HTM.out HMM.out HRR.out HE.out ?_; intro v7 w7 hN7 hb7; rw [← HWX.out] at hN7; obtain ⟨B1, e1, B2, e2, B3, e3, e7, _⟩ := hN7.mem; subst e7; have HNX := Lib.hid (NextW.one (wr := wr) hN7 ((Below.refl wr.heap.size wr).drew.trans hb7)); clear hN7 hb7)
            | (refine step_tick_o (wr.drew.alloc (.cells #[.int .i64 0, .slice none 0 0, .slice none 0 0, .slice none 0 0] 27)) (by rfl) _ _ _ (by rfl) _ k (watchOf l rs k) A lc l Ap cp row (by rfl) (by rfl) (by rfl) HTM2.out HMM2.out HRR2.out HE.out ?_; intro v7 w7 hN7 hb7; rw [← HWX.out] at hN7; obtain ⟨B1, e1, B2, e2, B3, e3, e7, _⟩ := hN7.mem; subst e7; have hh7 := (hb7.block wr.heap.size (by simp)).trans HNZ.out; have u0 := row_cell hh7 0; have u1 := row_cell hh7 1; have u2 := row_cell hh7 2; have u3 := row_cell hh7 3; have v0 := row_frozen hh7 0; have v1 := row_frozen hh7 1; have v2 := row_frozen hh7 2; have v3 := row_frozen hh7 3; simp only [List.getElem?_toArray, List.getElem?_cons_succ, List.getElem?_cons_zero] at u0 u1 u2 u3; have HNX := Lib.hid (NextW.two (wr := wr) (by simpa using hN7) (HDA.out.trans (hb7.mono (by simp))) hh7); clear hN7 hb7 hh7)
            | fail)
          all_goals
            go_wp2_with fail
            go_meet
          all_goals (with_reducible exact ⟨_, rfl, rfl, HNX⟩)
        case rest =>
          obtain ⟨nb, rfl, rfl, HNX⟩ := hcut
          rename World => wc
          obtain ⟨B1, e1, B2, e2, B3, e3, hn, hN, hb, hnb⟩ := HNX.out
          have r0 := row_cell hn 0
          have r1 := row_cell hn 1
          have r2 := row_cell hn 2
          have r3 := row_cell hn 3
          simp only [List.getElem?_toArray, List.getElem?_cons_succ, List.getElem?_cons_zero] at r0 r1 r2 r3
          have hsc := hb.size
          have hnl := lt_of_block hn
          have HBC : Hid (Below wA.heap.size wA wc) := HBW.out.trans (hb.mono hwz)
          have HBK := Lib.hid hb
          have HMC : Hid (MemA wc wc.heap.size (.agg #[.int .i64 ((k : Int) + 1), .slice B1 (watchOf l rs (k + 1)).ns.length e1, .slice B2 (watchOf l rs (k + 1)).cs.length e2, .slice B3 (watchOf l rs (k + 1)).ks.length e3]) ((k : Int) + 1) (watchOf l rs (k + 1))) := hN.mem
          have HNC := Lib.hid hN
          have HHM : Hid (wc.heap[mb]? = some _) := (hb.block mb hmblt).trans HHB.out
          have HHN := Lib.hid hn
          clear hn hN hb HTM HMM HRR HHD HDA HTM2 HMM2 HRR2 HNZ HNX q0 q1 q2 q3 t0 HHB HMW
          go_wp2_with (go_at_call 37; refine (rfits_any A lc l _ ((k : Int) + 1) (watchOf l rs (k + 1)) _ (HM.out wc (HX.out _ HBC.out)) HMC.out HMB.out HFI.out).mono ?_; rintro e w9 ⟨rfl, hb9⟩; have HB9 := Lib.hid hb9; clear hb9 r0 r1 r2 r3)
          have hs9 := HB9.out.size
          have HCO : Hid (∀ W, Below w9.heap.size w9 W → W.cell? ⟨nb, 3, none⟩ = some (.slice B3 (watchOf l rs (k + 1)).ks.length e3) ∧ CodesA W W.heap.size B3 (watchOf l rs (k + 1)).ks) := fun W hW => by
            have h1 := HB9.out.trans (hW.mono hs9)
            refine ⟨(bcell h1 _ _ hnl).trans (row_cell HHN.out 3), ?_⟩
            obtain ⟨_, _, _, _, _, _, e, _, _, h2, _⟩ := HMC.out
            injection e with e
            simp only [Array.mk.injEq, List.cons.injEq, and_true, true_and, Value.slice.injEq] at e
            obtain ⟨_, _, rfl, _⟩ := e
            exact (h2.keep h1).more h1.size
          have HW9 : Hid (∀ W, Below w9.heap.size w9 W → Below wA.heap.size wA W) := fun W hW => HBC.out.trans ((HB9.out.trans (hW.mono hs9)).mono (by omega))
          have HWR : Hid (∀ W, Below w9.heap.size w9 W → Below wr.heap.size wr W) := fun W hW => HBK.out.trans ((HB9.out.trans (hW.mono hs9)).mono hsc)
          have HWC : Hid (∀ W, Below w9.heap.size w9 W → Below wc.heap.size wc W) := fun W hW => HB9.out.trans (hW.mono hs9)
          have hq1 : (watchOf l rs (k + 1)).ks.length ≤ 1000000 := (HCO.out w9 (Below.refl _ _)).2.1
          have hqn : (watchOf l rs (k + 1)).ks.length ≤ maxLen := Nat.le_trans (show (watchOf l rs (k + 1)).ks.length ≤ 1000000 from (HCO.out w9 (Below.refl _ _)).2.1) (by decide)
          go_loopw [12] (fun v12 wy => ∃ i : Nat, i ≤ (watchOf l rs (k + 1)).ks.length ∧ v12 = .int .i64 i ∧ Hid (Below w9.heap.size w9 wy)) (fun v12 _ => (watchOf l rs (k + 1)).ks.length - (intOf v12).toNat)
          case atStart => exact ⟨0, Nat.zero_le _, rfl, Below.refl _ _⟩
          case round =>
            obtain ⟨i, hi, rfl, HBY⟩ := hrel
            rename World => wy
            obtain ⟨r3, hCA⟩ := HCO.out wy HBY.out
            have hsy := HBY.out.size
            by_cases hli : i < (watchOf l rs (k + 1)).ks.length
            · obtain ⟨f, cb, co, Af, cf, hf, hA, hcb, f0, f1, f2, f3, f4, f5, hfc, hIf⟩ := hCA.at_ hli
              subst hA
              have hmem : f ∈ (watchOf l rs (k + 1)).ks := by rw [← hf]; exact getD_mem hli
              obtain ⟨q, hq⟩ : ∃ q : Nat, f.mon = (q : Int) := ⟨f.mon.toNat, by have := (HOK.out f hmem).1; omega⟩
              have hql : q < l.length := by have := (HOK.out f hmem).2; omega
              have HLI := Lib.hid hli
              clear hCA hIf hfc hf
              by_cases hl : f.last = (k : Int)
              · obtain ⟨hact, hin⟩ := HLA.out f hmem hl
                obtain ⟨m, mb2, mo, hm9, hAm, hmbl, m0, m1, m2, _⟩ := (HM.out wy (HX.out _ (HW9.out _ HBY.out))).at_ hql
                have hgm : l.getD q dMon = m := by rw [List.getD_eq_getElem?_getD, hm9]; rfl
                have hmon : monB m = true := by have := (mon_at HMB.out hql).2; rwa [hgm] at this
                obtain ⟨g, hg⟩ : ∃ g : Nat, m.sig = (g : Int) := ⟨m.sig.toNat, by have := (monB_bounds hmon).1; omega⟩
                have hgl : g < row.length := by
                  have h1 := HLW.out
                  unfold lawB at h1
                  simp only [Bool.and_eq_true] at h1
                  have h2 := List.all_eq_true.1 h1.2.2 m (List.mem_of_getElem? hm9)
                  unfold sigB at h2
                  have h3 := of_decide_eq_true h2
                  omega
                obtain ⟨tr, hir⟩ := HT0.out wy (HWR.out _ HBY.out)
                obtain ⟨rb, ro, hAr, hrb, rv⟩ := hir.at_ hgl
                have hrl := hir.1
                rw [hq, Int.toNat_natCast, hgm, hg, Int.toNat_natCast] at hin
                rw [hact] at f5
                rw [hl] at f2
                rw [hq] at f0
                rw [hg] at m0
                subst hAr
                subst hAm
                have hin2 : m.low ≤ row.getD g 0 → ¬ row.getD g 0 ≤ m.high := fun h1 h2 => by
                  unfold inB at hin
                  rw [decide_eq_true h1, decide_eq_true h2] at hin
                  exact absurd hin (by decide)
                generalize row.getD g 0 = vv at *
                have hkk : ((k : Int) != (k : Int)) = false := by simp
                clear hact hin hl hq hmem hg hgm hmon hm9 hir
                have HBW2 : Hid (Below w9.heap.size w9 (wy.alloc (.cells #[.int .i64 q, .int .i64 f.first, .int .i64 k, .int .i64 f.count, .slice Af f.frame.length cf, .bool true] 46))) := HBY.out.alloc HBY.out.size _
                have HSP : Hid (∀ n : Nat, ((wy.alloc (.cells #[.int .i64 q, .int .i64 f.first, .int .i64 k, .int .i64 f.count, .slice Af f.frame.length cf, .bool true] 46)).drewN n).cell? ⟨wy.heap.size, 0, none⟩ = some (.int .i64 q) ∧ ((wy.alloc (.cells #[.int .i64 q, .int .i64 f.first, .int .i64 k, .int .i64 f.count, .slice Af f.frame.length cf, .bool true] 46)).drewN n).cell? ⟨wy.heap.size, 5, none⟩ = some (.bool true) ∧ ((wy.alloc (.cells #[.int .i64 q, .int .i64 f.first, .int .i64 k, .int .i64 f.count, .slice Af f.frame.length cf, .bool true] 46)).drewN n).cell? ⟨b, off + k, none⟩ = some (.slice (some ⟨rb, ro, none⟩) row.length cp) ∧
                    ((wy.alloc (.cells #[.int .i64 q, .int .i64 f.first, .int .i64 k, .int .i64 f.count, .slice Af f.frame.length cf, .bool true] 46)).drewN n).cell? ⟨mb2, mo + q * 7, none⟩ = some (.int .i64 g) ∧ ((wy.alloc (.cells #[.int .i64 q, .int .i64 f.first, .int .i64 k, .int .i64 f.count, .slice Af f.frame.length cf, .bool true] 46)).drewN n).cell? ⟨mb2, mo + q * 7 + 1, none⟩ = some (.int .i64 m.low) ∧ ((wy.alloc (.cells #[.int .i64 q, .int .i64 f.first, .int .i64 k, .int .i64 f.count, .slice Af f.frame.length cf, .bool true] 46)).drewN n).cell? ⟨mb2, mo + q * 7 + 2, none⟩ = some (.int .i64 m.high) ∧ ((wy.alloc (.cells #[.int .i64 q, .int .i64 f.first, .int .i64 k, .int .i64 f.count, .slice Af f.frame.length cf, .bool true] 46)).drewN n).cell? ⟨rb, ro + g, none⟩ = some (.int .i64 vv)) := fun n =>
                  ⟨row_cell (heap_alloc_new wy (.cells #[.int .i64 q, .int .i64 f.first, .int .i64 k, .int .i64 f.count, .slice Af f.frame.length cf, .bool true] 46)) 0, row_cell (heap_alloc_new wy (.cells #[.int .i64 q, .int .i64 f.first, .int .i64 k, .int .i64 f.count, .slice Af f.frame.length cf, .bool true] 46)) 5, (acell wy _ _ _ (by omega)).trans tr, (acell wy _ _ _ hmbl).trans m0, (acell wy _ _ _ hmbl).trans m1, (acell wy _ _ _ hmbl).trans m2, (acell wy _ _ _ hrb).trans rv⟩
                go_wp2_with fail
                generalize wy.alloc (.cells #[.int .i64 q, .int .i64 f.first, .int .i64 k, .int .i64 f.count, .slice Af f.frame.length cf, .bool true] 46) = wz at *
                generalize wy.heap.size = xb at *
                clear f0 f1 f2 f3 f4 f5 tr m0 m1 m2 rv
                obtain ⟨p0, p5, pr, pm0, pm1, pm2, pv⟩ := HSP.out 0
                have drew0 : wz.drewN 0 = wz := rfl
                rw [drew0] at p0 p5 pr pm0 pm1 pm2 pv
                go_quiet (fail)
                obtain ⟨z0, z5, zr, zm0, zm1, zm2, zv⟩ := HSP.out nq
                have HBZ := Lib.hid (bdrw HBW2.out nq)
                clear p0 p5 pr pm0 pm1 pm2 pv drew0
                generalize wz.drewN nq = w2 at *
                clear HSP
                by_cases hlow : m.low ≤ vv
                · have hhigh : ¬ vv ≤ m.high := by have := hin2 hlow; omega
                  clear hin2
                  go_wp2_with fail
                  go_roundw
                  case rel => exact ⟨i + 1, HLI.out, by go_num, HBZ⟩
                  case measure => simp [intOf]; have := HLI.out; omega
                · clear hin2
                  go_wp2_with fail
                  go_roundw
                  case rel => exact ⟨i + 1, HLI.out, by go_num, HBZ⟩
                  case measure => simp [intOf]; have := HLI.out; omega
              · have hne : (f.last != (k : Int)) = true := by simpa using hl
                clear hl hmem hq
                go_wp2_with fail
                go_roundw
                case rel => exact ⟨i + 1, HLI.out, by go_num, HBY.out.alloc HBY.out.size _⟩
                case measure => simp [intOf]; have := HLI.out; omega
            · obtain rfl : (watchOf l rs (k + 1)).ks.length = i := by omega
              clear hCA
              have hnw := (HWC.out _ HBY.out).block nb hnl |>.trans HHN.out
              have hmw := (HWC.out _ HBY.out).block mb (by omega) |>.trans HHM.out
              clear r3
              have r0 := row_cell hnw 0
              have r1 := row_cell hnw 1
              have r2 := row_cell hnw 2
              have r3 := row_cell hnw 3
              have z0 := row_cell hmw 0
              have z1 := row_cell hmw 1
              have z2 := row_cell hmw 2
              have z3 := row_cell hmw 3
              have y0 := row_frozen hmw 0
              have y1 := row_frozen hmw 1
              have y2 := row_frozen hmw 2
              have y3 := row_frozen hmw 3
              simp only [List.getElem?_toArray, List.getElem?_cons_succ, List.getElem?_cons_zero] at r0 r1 r2 r3 z0 z1 z2 z3
              have hmn : mb ≠ nb := by omega
              have HMW9 := Lib.hid hmw
              have HLT := Lib.hid hlt
              clear hnw hmw
              go_wp2_with fail
              go_roundw
              case rel =>
                refine ⟨k + 1, HLT.out, by go_num, ⟨B1, e1, B2, e2, B3, e3, ?_, ?_⟩, below_put4 (HW9.out _ HBY.out) (by omega) _ _ _ _⟩
                · push_cast
                  exact HNC.out _ (by have := (HWC.out _ HBY.out).size; simpa using this) fun b hb hl => (heap_put4 (by omega) _ _ _ _).trans ((HWC.out _ HBY.out).block b hl)
                · push_cast
                  exact put4 HMW9.out
              case measure => simp [intOf]; have := HLT.out; omega
      · obtain rfl : rs.length = k := by omega
        obtain ⟨hal, hma⟩ := HAL.out wr HBW.out
        have HMA := Lib.hid hma
        have r0 := row_cell hal 0
        have r1 := row_cell hal 1
        have r2 := row_cell hal 2
        have r3 := row_cell hal 3
        simp only [List.getElem?_toArray, List.getElem?_cons_succ, List.getElem?_cons_zero] at r0 r1 r2 r3
        have hab := lt_of_block hal
        clear hma hal
        go_wp2_with (first
          | (go_at_call 17; refine (same_mem _ _ rs.length (watchOf l rs rs.length) _ HMA.out HMW.out).mono ?_; rintro e w6 ⟨rfl, hb6⟩; have HB6 := Lib.hid (HX.out _ (HBW.out.trans (hb6.mono hwz))))
          | (go_at_call 18; refine (HW.out _ HB6.out).mono ?_; rintro e w7 ⟨rfl, hb7⟩))
        go_ret
        exact ⟨rfl, HB6.out.trans (hb7.mono HB6.out.size)⟩
  · have hz' : (E != 0) = true := by simpa using hz
    have HEE := Lib.hid hE
    clear hE h hr hT
    go_enter Tryd.func9, Tryd.ntmps9
    go_wp2_with (first
      | (go_at_call 15; refine HC.out.mono ?_; rintro e wa ⟨⟨v, rfl, hMv⟩, hba⟩; rw [HEE.out]; obtain ⟨P1, c1, P2, c2, P3, c3, rfl, _⟩ := hMv; have HBA := Lib.hid hba; clear hba)
      | (go_at_call 33; refine (begin_o A lc l _ (HM.out _ (HBA.out.alloc HBA.out.size _))).mono ?_; rintro e wb ⟨⟨v, rfl, hN⟩, hbb⟩; obtain ⟨O1, d1, O2, d2, O3, d3, rfl, _⟩ := hN.mem; have HBB := Lib.hid ((HBA.out.alloc HBA.out.size _).trans (hbb.mono (HBA.out.alloc HBA.out.size _).size)); clear hbb)
      | (go_at_call 18; refine (HW.out _ (HBB.out.alloc HBB.out.size _)).mono ?_; rintro e wz ⟨rfl, hbz⟩))
    go_ret
    exact ⟨rfl, (HBB.out.alloc HBB.out.size _).trans (hbz.mono (HBB.out.alloc HBB.out.size _).size)⟩
end Go.Proofs.YtonpemikodajdaaDoor
