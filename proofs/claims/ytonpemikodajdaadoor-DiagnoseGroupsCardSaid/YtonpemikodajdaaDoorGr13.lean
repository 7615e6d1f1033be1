/- Walks: the reference's Groups and Useless. -/
import Derived.Test.YtonpemikodajdaaDoorGr12
import Derived.Test.YtonpemikodajdaaDoorGa
import Derived.Deep.Cut
import Derived.Deep.CutBlock
import Derived.Deep.DeepCutAuto
import Derived.Deep.RegionLaw
namespace Go.Proofs.YtonpemikodajdaaDoor
open Go.RowKit

set_option maxRecDepth 100000 in
/-- a call of a function with two arguments, as a step of a region that draws -/
theorem step_rg {ops : Array Oper} {o : Oper} {a : Act} {K : Act → World → Prop} {Q : Exit → Act → World → Prop} {E : Prop} (w : World) (hg : o.guard = none) (x y : Operand) (ho : o.op = .call { callee := .value (.func 70), args := #[x, y], argTypes := #[36, 3] }) (vx vy : Value) (hx : a.eval x = vx) (hy : a.eval y = vy)
    {R : Value → World → Prop} (hC : Calls Tryd.prog 70 #[vx, vy] w fun e w' => ∃ v, e = .returned v ∧ R v w') (hK : ∀ v w2, R v w2 → K (a.put o.dst v) w2) :
    if Region.wanted o (yielded ops a.tmps) = true then Oper.wp Tryd.prog o a w K Q else E := by
  rw [if_pos (by simp [Region.wanted, hg])]
  have hf : a.eval (.func 70) = .func (.func 70) #[] #[] := rfl
  unfold Oper.wp execOp
  simp only [ho, resolve, invoke, Sem.run_bind, List.map_toArray, List.map_cons, List.map_nil, hx, hy, hf]
  simp [go_sem]
  refine hC.mono ?_
  rintro e w2 ⟨v, rfl, hR⟩
  exact hK v w2 hR
set_option maxRecDepth 100000 in
set_option maxHeartbeats 4000000 in
theorem rGroups_any (A1 A2 : Option Addr) (c1 c2 : Nat) (c : MCase) (w : World) (h : CaseA w w.heap.size A1 A2 c) :
    Calls Tryd.prog 29 #[.agg #[.slice A1 c.weights.length c1, .slice A2 c.tests.length c2]] w fun e w' => (∃ v, e = .returned (.tuple #[v, .int .i64 (checkC c)]) ∧ OutRR w' w.heap.size v (if caseB c = true then (groupsS c (-1) c.weights.length).map bitsI else [])) ∧ Below w.heap.size w w' := by
  have hb1 : Below w.heap.size w (w.alloc (.cells #[.slice A1 c.weights.length c1, .slice A2 c.tests.length c2] 36)) := (Below.refl _ _).alloc (Nat.le_refl _) _
  have hsz : (w.alloc (.cells #[.slice A1 c.weights.length c1, .slice A2 c.tests.length c2] 36)).heap.size = w.heap.size + 1 := by simp
  have n0 := newcell w #[.slice A1 c.weights.length c1, .slice A2 c.tests.length c2] 36 0
  have n1 := newcell w #[.slice A1 c.weights.length c1, .slice A2 c.tests.length c2] 36 1
  simp only [List.getElem?_toArray, List.getElem?_cons_succ, List.getElem?_cons_zero] at n0 n1
  obtain ⟨E, hE⟩ : ∃ E, checkC c = E := ⟨_, rfl⟩
  have HCK := Lib.hid (rccheck_any A1 A2 c1 c2 c (w.alloc (.cells #[.slice A1 c.weights.length c1, .slice A2 c.tests.length c2] 36)) ((h.keep hb1).more hb1.size) hE)
  rw [hE]
  rcases hv : caseB c
  · have hEv : E = 101 := by rw [← hE, checkC_no hv]
    subst hEv
    clear hE hv
    go_enter Tryd.func29, Tryd.ntmps29
    go_wp2_with (go_at_call 28; refine HCK.out.mono ?_; rintro e w2 ⟨rfl, hb2⟩)
    go_ret2
    exact ⟨⟨_, rfl, OutRR.nil _ _⟩, hb1.trans (hb2.mono (by omega))⟩
  · have hEv : E = 0 := by rw [← hE, checkC_yes hv]
    subst hEv
    have HN : Hid (∀ wx, Below (w.heap.size + 1) (w.alloc (.cells #[.slice A1 c.weights.length c1, .slice A2 c.tests.length c2] 36)) wx → wx.cell? ⟨w.heap.size, 0, none⟩ = some (.slice A1 c.weights.length c1) ∧ wx.cell? ⟨w.heap.size, 1, none⟩ = some (.slice A2 c.tests.length c2)) := fun wx hb => ⟨(bcell hb _ _ (by omega)).trans n0, (bcell hb _ _ (by omega)).trans n1⟩
    have HGR : Hid (∀ (wx : World), Below (w.heap.size + 1) (w.alloc (.cells #[.slice A1 c.weights.length c1, .slice A2 c.tests.length c2] 36)) wx → Calls Tryd.prog 70 #[.agg #[.slice A1 c.weights.length c1, .slice A2 c.tests.length c2], .int .i64 (-1)] wx fun e w' => (∃ v, e = .returned v ∧ OutRR w' wx.heap.size v ((groupsS c (-1) c.weights.length).map bitsI)) ∧ Below wx.heap.size wx w') := fun wx hb => by
      have h9 := rgroups_any A1 A2 c1 c2 c (-1) wx ((h.keep (hb1.trans (hb.mono (by omega)))).more (by have := hb.size; omega)) hv
      rw [rgroups_eq (caseOk hv) _ (Nat.le_refl _), map_nI_bits] at h9
      exact h9
    clear hE hv
    go_enter Tryd.func29, Tryd.ntmps29
    go_wp2_with (first | (go_at_call 28; refine HCK.out.mono ?_; rintro e w2 ⟨rfl, hb2⟩; have HB2 : Hid (Below (w.heap.size + 1) (w.alloc (.cells #[.slice A1 c.weights.length c1, .slice A2 c.tests.length c2] 36)) w2) := hb2.mono (by omega); obtain ⟨p0, p1⟩ := HN.out w2 HB2.out; clear hb2) | (go_at_call 70; refine (HGR.out _ HB2.out).mono ?_; rintro e w3 ⟨⟨v3, rfl, hO3⟩, hb3⟩; have HO3 := Lib.hid hO3; have HB3 : Hid (Below w2.heap.size w2 w3) := hb3; clear hO3 hb3))
    go_ret2
    have hs2 := HB2.out.size
    rw [hsz] at hs2
    exact ⟨⟨_, rfl, HO3.out.base (by omega)⟩, (hb1.trans (HB2.out.mono (by omega))).trans (HB3.out.mono (by omega))⟩
set_option maxRecDepth 100000 in
set_option maxHeartbeats 8000000 in
theorem ruseless_any (A1 A2 : Option Addr) (c1 c2 : Nat) (c : MCase) (w : World) (h : CaseA w w.heap.size A1 A2 c) :
    Calls Tryd.prog 31 #[.agg #[.slice A1 c.weights.length c1, .slice A2 c.tests.length c2]] w fun e w' => (∃ v, e = .returned (.tuple #[v, .int .i64 (checkC c)]) ∧ OutI w' w.heap.size v (if caseB c = true then uselessTo c c.tests.length else [])) ∧ Below w.heap.size w w' := by
  have hb1 : Below w.heap.size w (w.alloc (.cells #[.slice A1 c.weights.length c1, .slice A2 c.tests.length c2] 36)) := (Below.refl _ _).alloc (Nat.le_refl _) _
  have hsz : (w.alloc (.cells #[.slice A1 c.weights.length c1, .slice A2 c.tests.length c2] 36)).heap.size = w.heap.size + 1 := by simp
  have n0 := newcell w #[.slice A1 c.weights.length c1, .slice A2 c.tests.length c2] 36 0
  have n1 := newcell w #[.slice A1 c.weights.length c1, .slice A2 c.tests.length c2] 36 1
  simp only [List.getElem?_toArray, List.getElem?_cons_succ, List.getElem?_cons_zero] at n0 n1
  obtain ⟨E, hE⟩ : ∃ E, checkC c = E := ⟨_, rfl⟩
  have HCK := Lib.hid (rccheck_any A1 A2 c1 c2 c (w.alloc (.cells #[.slice A1 c.weights.length c1, .slice A2 c.tests.length c2] 36)) ((h.keep hb1).more hb1.size) hE)
  rw [hE]
  rcases hv : caseB c
  · have hEv : E = 101 := by rw [← hE, checkC_no hv]
    subst hEv
    clear hE hv
    go_enter Tryd.func31, Tryd.ntmps31
    go_wp2_with (go_at_call 28; refine HCK.out.mono ?_; rintro e w2 ⟨rfl, hb2⟩)
    go_ret2
    exact ⟨⟨_, rfl, OutI.nil _ _⟩, hb1.trans (hb2.mono (by omega))⟩
  · have hEv : E = 0 := by rw [← hE, checkC_yes hv]
    subst hEv
    have hok := caseOk hv
    have hm12 := hok.t
    have hn12 := hok.n2
    have HN : Hid (∀ wx, Below (w.heap.size + 1) (w.alloc (.cells #[.slice A1 c.weights.length c1, .slice A2 c.tests.length c2] 36)) wx → wx.cell? ⟨w.heap.size, 0, none⟩ = some (.slice A1 c.weights.length c1) ∧ wx.cell? ⟨w.heap.size, 1, none⟩ = some (.slice A2 c.tests.length c2)) := fun wx hb => ⟨(bcell hb _ _ (by omega)).trans n0, (bcell hb _ _ (by omega)).trans n1⟩
    have HGR : Hid (∀ (wx : World) (out : Int), Below (w.heap.size + 1) (w.alloc (.cells #[.slice A1 c.weights.length c1, .slice A2 c.tests.length c2] 36)) wx → Calls Tryd.prog 70 #[.agg #[.slice A1 c.weights.length c1, .slice A2 c.tests.length c2], .int .i64 out] wx fun e w' => ∃ v, e = .returned v ∧ (∃ A cap, v = .slice A (rgroupsS c out c.weights.length).length cap) ∧ Below wx.heap.size wx w') := fun wx out hb => by
      refine (rgroups_any A1 A2 c1 c2 c out wx ((h.keep (hb1.trans (hb.mono (by omega)))).more (by have := hb.size; omega)) hv).mono ?_
      rintro e w' ⟨⟨v, rfl, hO⟩, hb'⟩
      obtain ⟨A, cap, hva, _⟩ := hO.lenV
      rw [List.length_map] at hva
      exact ⟨v, rfl, ⟨A, cap, hva⟩, hb'⟩
    have hle : ∀ out, (rgroupsS c out c.weights.length).length ≤ 12 := fun out => by
      rw [rgroups_eq hok out (Nat.le_refl _), List.length_map]
      have := groupsS_len c out c.weights.length
      omega
    have HU : Hid (ruselessTo c c.tests.length = uselessTo c c.tests.length) := useless_eq hok _
    rw [if_pos rfl, ← HU.out]
    have HLE := Lib.hid hle
    clear hE hv hle hok n0 n1
    go_enter Tryd.func31, Tryd.ntmps31
    go_wp2_with (go_at_call 28; refine HCK.out.mono ?_; rintro e w2 ⟨rfl, hb2⟩; have HB2 : Hid (Below (w.heap.size + 1) (w.alloc (.cells #[.slice A1 c.weights.length c1, .slice A2 c.tests.length c2] 36)) w2) := hb2.mono (by omega); clear hb2)
    have hs2 := HB2.out.size
    rw [hsz] at hs2
    go_loopw [6, 5] (fun vi v2 wr => ∃ k : Nat, k ≤ c.tests.length ∧ vi = .int .i64 k ∧ Hid (OutI wr w2.heap.size v2 (ruselessTo c k)) ∧ Hid (Below w2.heap.size w2 wr)) (fun vi _ _ => c.tests.length - (intOf vi).toNat)
    case atStart => exact ⟨0, Nat.zero_le _, rfl, OutI.nil _ _, Below.refl _ _⟩
    case round =>
      obtain ⟨k, hk, rfl, HOI, HB⟩ := hrel
      have HB4 : Hid (Below (w.heap.size + 1) (w.alloc (.cells #[.slice A1 c.weights.length c1, .slice A2 c.tests.length c2] 36)) wr) := HB2.out.trans (HB.out.mono (by omega))
      have hsr := HB.out.size
      obtain ⟨p0, p1⟩ := HN.out wr HB4.out
      by_cases hlt : k < c.tests.length
      rotate_left
      · obtain rfl : k = c.tests.length := by omega
        go_wp2_with fail
        go_ret2
        exact ⟨⟨u5, rfl, own_base HOI.out (by omega)⟩, hb1.trans (HB4.out.mono (by omega))⟩
      · have hus : ruselessTo c (k + 1) = if (rgroupsS c (k : Int) c.weights.length).length = (rgroupsS c (-1) c.weights.length).length then ruselessTo c k ++ [(k : Int)] else ruselessTo c k := rfl
        have hl1 := HLE.out (k : Int)
        have hl2 := HLE.out (-1)
        have HG1 := Lib.hid (fun (wx : World) hb => HGR.out wx (k : Int) hb)
        have HG2 := Lib.hid (fun (wx : World) hb => HGR.out wx (-1) hb)
        have hrl : ∀ k, (ruselessTo c k).length ≤ k := fun k => by
          induction k with
          | zero => exact Nat.le_refl 0
          | succ k ih =>
            show (if _ then _ else _ : List Int).length ≤ _
            split
            · rw [List.length_append, List.length_singleton]; omega
            · omega
        have hul : (ruselessTo c k).length ≤ 1000000 := Nat.le_trans (hrl k) (by omega)
        have HUS := Lib.hid hus
        clear hus hrl
        generalize (rgroupsS c (k : Int) c.weights.length).length = m1 at *
        generalize (rgroupsS c (-1) c.weights.length).length = m2 at *
        obtain ⟨t, ht⟩ : ∃ t, ((m1 : Int) == (m2 : Int)) = t := ⟨_, rfl⟩
        have HT : Hid (t = decide (m1 = m2)) := by
          show _ = _
          rw [← ht, Bool.eq_iff_iff, beq_iff_eq, decide_eq_true_eq]
          omega
        go_wp2_with fail
        go_cut [26] (fun v wx => v = .bool t ∧ Hid (Below wr.heap.size wr wx))
        case first =>
          go_region_law ((first | (refine step_rg _ (by rfl) _ _ (by rfl) _ _ (by rfl) (by rfl) (HG1.out _ HB5.out) ?_; rintro v6 w6 ⟨⟨A6, q6, rfl⟩, hb6⟩; have HB6 : Hid (Below (w.heap.size + 1) (w.alloc (.cells #[.slice A1 c.weights.length c1, .slice A2 c.tests.length c2] 36)) w6) := (HB5.out).trans (hb6.mono (by have := HB5.out.size; omega)); obtain ⟨s6, t6⟩ := HN.out w6 HB6.out; have HC6 : Hid (Below wr.heap.size wr w6) := HC5.out.trans (hb6.mono HC5.out.size); clear hb6) | (refine step_rg _ (by rfl) _ _ (by rfl) _ _ (by rfl) (by rfl) (HG2.out _ HB5.out) ?_; rintro v6 w6 ⟨⟨A6, q6, rfl⟩, hb6⟩; have HB6 : Hid (Below (w.heap.size + 1) (w.alloc (.cells #[.slice A1 c.weights.length c1, .slice A2 c.tests.length c2] 36)) w6) := (HB5.out).trans (hb6.mono (by have := HB5.out.size; omega)); obtain ⟨s6, t6⟩ := HN.out w6 HB6.out; have HC6 : Hid (Below wr.heap.size wr w6) := HC5.out.trans (hb6.mono HC5.out.size); clear hb6) | (refine step_rg _ (by rfl) _ _ (by rfl) _ _ (by rfl) (by rfl) (HG1.out _ HB4.out.drew) ?_; rintro v5 w5 ⟨⟨A5, q5, rfl⟩, hb5⟩; have HB5 : Hid (Below (w.heap.size + 1) (w.alloc (.cells #[.slice A1 c.weights.length c1, .slice A2 c.tests.length c2] 36)) w5) := (HB4.out.drew).trans (hb5.mono (by have := HB4.out.size; simp; omega)); obtain ⟨s5, t5⟩ := HN.out w5 HB5.out; have HC5 : Hid (Below wr.heap.size wr w5) := ((Below.refl wr.heap.size wr).drew).trans (hb5.mono (by simp)); clear hb5) | (refine step_rg _ (by rfl) _ _ (by rfl) _ _ (by rfl) (by rfl) (HG2.out _ HB4.out.drew) ?_; rintro v5 w5 ⟨⟨A5, q5, rfl⟩, hb5⟩; have HB5 : Hid (Below (w.heap.size + 1) (w.alloc (.cells #[.slice A1 c.weights.length c1, .slice A2 c.tests.length c2] 36)) w5) := (HB4.out.drew).trans (hb5.mono (by have := HB4.out.size; simp; omega)); obtain ⟨s5, t5⟩ := HN.out w5 HB5.out; have HC5 : Hid (Below wr.heap.size wr w5) := ((Below.refl wr.heap.size wr).drew).trans (hb5.mono (by simp)); clear hb5)))
          all_goals
            go_wp2_with fail
            go_meet
            exact ⟨rfl, HC6.out⟩
        case rest =>
          obtain ⟨rfl, HBC⟩ := hcut
          have HB5 : Hid (Below w2.heap.size w2 wc) := HB.out.trans (HBC.out.mono hsr)
          have hvl := own_block_lt HOI.out
          have HVL := Lib.hid hvl
          have hsc := HBC.out.size
          have HO5 : Hid (OutI wc w2.heap.size u5 (ruselessTo c k)) := own_below HOI.out HBC.out (fun g hg => (HVL.out g hg).2)
          clear p0 p1 ht hvl
          rcases t with _ | _
          · go_wp2_with fail
            go_roundw
            case rel => exact ⟨k + 1, by omega, by go_num, by rw [HUS.out, if_neg (of_decide_eq_false HT.out.symm)]; exact HO5.out, HB5.out⟩
            case measure => simp [intOf]; omega
          · have HQ0 := Lib.hid (newcell wc #[.int .i64 k] 3 0)
            have HO6 : Hid (OutI (wc.alloc (.cells #[.int .i64 k] 3)) w2.heap.size u5 (ruselessTo c k)) := World.ownsRow.alloc HO5.out _
            have hs6 : w2.heap.size ≤ (wc.alloc (.cells #[.int .i64 k] 3)).heap.size := by simp; omega
            go_wp2_with (at_builtin; refine app_int _ rfl _ _ rfl w2.heap.size u5 (ruselessTo c k) rfl HO6.out wc.heap.size k rfl HQ0.out hul hs6 ?_; intro v7 w7 hO7 hg7; have HO7 := Lib.hid hO7; have HG7 := Lib.hid hg7; clear hO7 hg7)
            go_roundw
            case rel => exact ⟨k + 1, by omega, by go_num, by rw [HUS.out, if_pos (of_decide_eq_true HT.out.symm)]; exact HO7.out, (HB5.out.alloc (by omega) _).grown HG7.out hs6 (fun g hg => (HVL.out g hg).1)⟩
            case measure => simp [intOf]; omega
end Go.Proofs.YtonpemikodajdaaDoor
