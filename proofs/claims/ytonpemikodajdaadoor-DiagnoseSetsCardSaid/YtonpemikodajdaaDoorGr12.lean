/- Walk: the reference's groups. -/
import Derived.Test.YtonpemikodajdaaDoorGx
import Derived.Test.YtonpemikodajdaaDoorGc
import Derived.Test.YtonpemikodajdaaDoorBa
namespace Go.Proofs.YtonpemikodajdaaDoor
open Go.RowKit

/-- a list of suspects as a list of ints -/
def nI (l : List Nat) : List Int := l.map fun (i : Nat) => (i : Int)
def hitR (c : MCase) (out : Int) (s : Nat) (l : List Nat) : Bool := ralikeB c (l.headD 0) s out
def putR (c : MCase) (out : Int) (s : Nat) (l : List Nat) : List Nat := if hitR c out s l = true then l ++ [s] else l
def raddTo (c : MCase) (out : Int) (LL : List (List Nat)) (s k : Nat) : List (List Nat) := (LL.take k).map (putR c out s) ++ LL.drop k
def anyTo (c : MCase) (out : Int) (LL : List (List Nat)) (s k : Nat) : Bool := (LL.take k).any (hitR c out s)
theorem raddTo_len {c : MCase} {out : Int} {LL : List (List Nat)} {s k : Nat} : (raddTo c out LL s k).length = LL.length := by
  unfold raddTo
  rw [List.length_append, List.length_map, List.length_take, List.length_drop]
  omega
theorem raddTo_at {c : MCase} {out : Int} {LL : List (List Nat)} {s k : Nat} (hk : k < LL.length) : (raddTo c out LL s k)[k]? = some LL[k] := by
  unfold raddTo
  rw [List.getElem?_append_right (by rw [List.length_map, List.length_take]; omega), List.length_map, List.length_take, List.getElem?_drop, Nat.min_eq_left (Nat.le_of_lt hk), Nat.sub_self, Nat.add_zero, List.getElem?_eq_getElem hk]
theorem raddTo_succ {c : MCase} {out : Int} {LL : List (List Nat)} {s k : Nat} (hk : k < LL.length) : raddTo c out LL s (k + 1) = (raddTo c out LL s k).set k (putR c out s LL[k]) := by
  unfold raddTo
  have e : k = ((LL.take k).map (putR c out s)).length := by rw [List.length_map, List.length_take]; omega
  rw [List.take_add_one, List.getElem?_eq_getElem hk, List.map_append, List.append_assoc, List.drop_eq_getElem_cons hk]
  conv => rhs; arg 2; rw [e]
  rw [List.set_append_right _ _ (Nat.le_refl _), Nat.sub_self]
  rfl
theorem raddTo_no {c : MCase} {out : Int} {LL : List (List Nat)} {s k : Nat} (hk : k < LL.length) (h : hitR c out s LL[k] = false) : raddTo c out LL s (k + 1) = raddTo c out LL s k := by
  rw [raddTo_succ hk]
  unfold putR
  rw [h, if_neg (by decide)]
  apply List.ext_getElem?
  intro j
  rw [List.getElem?_set]
  split
  · rename_i e
    subst e
    rw [if_pos (by rw [raddTo_len]; exact hk), raddTo_at hk]
  · rfl
theorem anyTo_succ {c : MCase} {out : Int} {LL : List (List Nat)} {s k : Nat} (hk : k < LL.length) : anyTo c out LL s (k + 1) = (anyTo c out LL s k || hitR c out s LL[k]) := by
  unfold anyTo
  rw [List.take_add_one, List.getElem?_eq_getElem hk, List.any_append]
  simp
theorem radd_all {c : MCase} {out : Int} {LL : List (List Nat)} {s : Nat} : raddS c out LL s = raddTo c out LL s LL.length ++ if anyTo c out LL s LL.length = true then [] else [[s]] := by
  unfold raddTo anyTo
  rw [List.take_length, List.drop_length, List.append_nil]
  rfl
/-- every group has a first suspect -/
theorem rgroups_head {c : MCase} (hc : CaseOk c) {out : Int} {n k : Nat} (hn : n ≤ c.weights.length) (hk : k < (rgroupsS c out n).length) : ∃ x r, (rgroupsS c out n)[k] = x :: r ∧ x < c.weights.length ∧ (x :: r).length ≤ 12 := by
  have hg := groups_ok hc out hn
  have e := rgroups_eq hc out hn
  have hk2 : k < (groupsS c out n).length := by rw [e, List.length_map] at hk; exact hk
  have e2 : (rgroupsS c out n)[k] = bitsOf ((groupsS c out n).getD k 0) := by
    have h1 : (rgroupsS c out n)[k]? = ((groupsS c out n).map bitsOf)[k]? := by rw [e]
    rw [List.getElem?_eq_getElem hk, List.getElem?_map, List.getElem?_eq_getElem hk2] at h1
    injection h1 with h1
    rw [h1, List.getD_eq_getElem?_getD, List.getElem?_eq_getElem hk2]
    rfl
  have hlt := hg.lt k hk2
  have hmem := fstB_mem (hg.ne k hk2) (pow12 (Nat.le_trans hn hc.n2) hlt)
  have hb := bit_lt hlt hmem
  have hl := bitsOf_len ((groupsS c out n).getD k 0)
  unfold fstB at hb
  rw [e2]
  rcases hx : bitsOf ((groupsS c out n).getD k 0) with _ | ⟨x, r⟩
  · exfalso
    have : fstB ((groupsS c out n).getD k 0) ∈ bitsOf ((groupsS c out n).getD k 0) := mem_bitsOf.2 ⟨bit_lt (n := 12) (pow12 (Nat.le_trans hn hc.n2) hlt) hmem, hmem⟩
    rw [hx] at this
    cases this
  · rw [hx] at hb hl
    exact ⟨x, r, rfl, Nat.lt_of_lt_of_le hb hn, hl⟩
theorem nI_len (l : List Nat) : (nI l).length = l.length := List.length_map _
theorem nI_snoc (l : List Nat) (s : Nat) : nI (l ++ [s]) = nI l ++ [(s : Int)] := List.map_append
theorem own_one (w : World) (y : Int) : OutI (w.alloc (.cells #[.int .i64 y] 3)) w.heap.size (.slice (some ⟨w.heap.size, 0, none⟩) 1 1) [y] := World.ownsRow_lit w _ 1 (Nat.le_refl _) (by unfold maxLen; omega) rfl
theorem map_nI_bits (L : List Nat) : (L.map bitsOf).map nI = L.map bitsI := by rw [List.map_map]; rfl
set_option maxRecDepth 100000 in
set_option maxHeartbeats 8000000 in
theorem rgroups_any (A1 A2 : Option Addr) (c1 c2 : Nat) (c : MCase) (out : Int) (w : World) (h : CaseA w w.heap.size A1 A2 c) (hc : caseB c = true) :
    Calls Tryd.prog 70 #[.agg #[.slice A1 c.weights.length c1, .slice A2 c.tests.length c2], .int .i64 out] w fun e w' => (∃ v, e = .returned v ∧ OutRR w' w.heap.size v ((rgroupsS c out c.weights.length).map nI)) ∧ Below w.heap.size w w' := by
  have hok := caseOk hc
  have hn12 := hok.n2
  have hb1 : Below w.heap.size w (w.alloc (.cells #[.slice A1 c.weights.length c1, .slice A2 c.tests.length c2] 36)) := (Below.refl _ _).alloc (Nat.le_refl _) _
  have hsz : (w.alloc (.cells #[.slice A1 c.weights.length c1, .slice A2 c.tests.length c2] 36)).heap.size = w.heap.size + 1 := by simp
  have n0 := newcell w #[.slice A1 c.weights.length c1, .slice A2 c.tests.length c2] 36 0
  have n1 := newcell w #[.slice A1 c.weights.length c1, .slice A2 c.tests.length c2] 36 1
  simp only [List.getElem?_toArray, List.getElem?_cons_succ, List.getElem?_cons_zero] at n0 n1
  have HN : Hid (∀ wx, Below (w.heap.size + 1) (w.alloc (.cells #[.slice A1 c.weights.length c1, .slice A2 c.tests.length c2] 36)) wx → wx.cell? ⟨w.heap.size, 0, none⟩ = some (.slice A1 c.weights.length c1) ∧ wx.cell? ⟨w.heap.size, 1, none⟩ = some (.slice A2 c.tests.length c2)) := fun wx hb => ⟨(bcell hb _ _ (by omega)).trans n0, (bcell hb _ _ (by omega)).trans n1⟩
  have HRA : Hid (∀ (wx : World) (a b : Nat) (r : Bool), Below (w.heap.size + 1) (w.alloc (.cells #[.slice A1 c.weights.length c1, .slice A2 c.tests.length c2] 36)) wx → a < c.weights.length → b < c.weights.length → ralikeB c a b out = r → Calls Tryd.prog 105 #[.agg #[.slice A1 c.weights.length c1, .slice A2 c.tests.length c2], .int .i64 a, .int .i64 b, .int .i64 out] wx fun e w' => e = .returned (.bool r) ∧ Below wx.heap.size wx w') := fun wx a b r hb ha hbb hr => ralike_any A1 A2 c1 c2 c a b out wx ((h.keep (hb1.trans (hb.mono (by omega)))).more (by have := hb.size; omega)) hc ha hbb hr
  have HOK := Lib.hid hok
  clear hc hok n0 n1
  go_enter Tryd.func70, Tryd.ntmps70
  go_wp2_with fail
  go_loopw [6, 5] (fun vi v5 wr => ∃ k : Nat, k ≤ c.weights.length ∧ vi = .int .i64 k ∧ Hid (OutRR wr (w.heap.size + 1) v5 ((rgroupsS c out k).map nI)) ∧ Hid (Below (w.heap.size + 1) (w.alloc (.cells #[.slice A1 c.weights.length c1, .slice A2 c.tests.length c2] 36)) wr)) (fun vi _ _ => c.weights.length - (intOf vi).toNat)
  case atStart => exact ⟨0, Nat.zero_le _, rfl, OutRR.nil _ _, Below.refl _ _⟩
  case round =>
    obtain ⟨k, hk, rfl, HO, HB⟩ := hrel
    obtain ⟨p0, p1⟩ := HN.out wr HB.out
    have hs := HB.out.size
    rw [hsz] at hs
    by_cases hlt : k < c.weights.length
    rotate_left
    · obtain rfl : k = c.weights.length := by omega
      go_wp2_with fail
      go_ret
      exact ⟨⟨u5, rfl, HO.out.base (by omega)⟩, hb1.trans (HB.out.mono (by omega))⟩
    · have hsucc : rgroupsS c out (k + 1) = raddS c out (rgroupsS c out k) k := rfl
      have hhead : ∀ (j : Nat) (hj : j < (rgroupsS c out k).length), ∃ x r, (rgroupsS c out k)[j] = x :: r ∧ x < c.weights.length ∧ (x :: r).length ≤ 12 := fun j hj => rgroups_head HOK.out (Nat.le_of_lt hlt) hj
      have hlen : (rgroupsS c out k).length ≤ 12 := by
        rw [rgroups_eq HOK.out out (Nat.le_of_lt hlt), List.length_map]
        have := groupsS_len c out k
        omega
      generalize rgroupsS c out k = LL at *
      have HSU := Lib.hid hsucc
      have HHD := Lib.hid hhead
      clear hsucc hhead
      obtain ⟨A5, q5, hv5, hq5⟩ := HO.out.lenV
      rw [List.length_map] at hv5 hq5
      subst hv5
      obtain ⟨wo, rfl⟩ : ∃ wo : World, wo = wr := ⟨_, rfl⟩
      go_wp2_with fail
      clear p0 p1
      go_loopw [8, 7] (fun vj v7 wx => ∃ j : Nat, j ≤ LL.length ∧ vj = .int .i64 j ∧ v7 = .bool (anyTo c out LL k j) ∧ Hid (OutRR wx (w.heap.size + 1) (.slice A5 LL.length q5) ((raddTo c out LL k j).map nI)) ∧ Hid (Below (w.heap.size + 1) (w.alloc (.cells #[.slice A1 c.weights.length c1, .slice A2 c.tests.length c2] 36)) wx)) (fun vj _ _ => LL.length - (intOf vj).toNat)
      case atStart => exact ⟨0, Nat.zero_le _, rfl, rfl, HO.out, HB.out⟩
      case round =>
        obtain ⟨j, hj, rfl, rfl, HOx, HBx⟩ := hrel
        have hsx := HBx.out.size
        rw [hsz] at hsx
        by_cases hjl : j < LL.length
        · obtain ⟨x, r, hxr, hxn, hxl⟩ := HHD.out j hjl
          have hjm : j < ((raddTo c out LL k j).map nI).length := by rw [List.length_map, raddTo_len]; exact hjl
          have hrow : ((raddTo c out LL k j).map nI).getD j [] = nI (x :: r) := by
            rw [List.getD_eq_getElem?_getD, List.getElem?_map, raddTo_at hjl, hxr]
            rfl
          obtain ⟨g, cap, vi, hv, hgb, hgl, m0, _, hOi, hvg, _⟩ := HOx.out.at_ hjm
          rw [hrow] at hOi
          injection hv with hA hln hcap
          subst hA; subst hcap
          clear hln
          obtain ⟨Ai, ci, hvi, hci, hIi⟩ := hOi.reads
          subst hvi
          obtain ⟨ib, io, hAi, hib, i0⟩ := hIi.at_ (k := 0) (by rw [nI_len]; simp)
          obtain ⟨ig, hAi', hbi, _⟩ := OutI.ownF hOi (by rw [nI_len]; simp)
          rw [hAi'] at hAi
          injection hAi with hAi
          injection hAi with e1 e2
          subst hAi'; subst e1; subst e2
          rw [Nat.zero_add] at i0
          have i0 : wr.cell? ⟨ig, 0, none⟩ = some (.int .i64 (x : Int)) := i0
          obtain ⟨hh, hhh⟩ : ∃ hh, hitR c out k LL[j] = hh := ⟨_, rfl⟩
          have hrl : ralikeB c x k out = hh := by rw [← hhh, hxr]; rfl
          have HSR : Hid (raddTo c out LL k (j + 1) = (raddTo c out LL k j).set j (putR c out k LL[j])) := raddTo_succ hjl
          have HNO : Hid (hh = false → raddTo c out LL k (j + 1) = raddTo c out LL k j) := fun e => raddTo_no hjl (hhh.trans e)
          have HAN : Hid (anyTo c out LL k (j + 1) = (anyTo c out LL k j || hh)) := by show _ = _; rw [anyTo_succ hjl, hhh]
          have HPU : Hid (hh = true → putR c out k LL[j] = (x :: r) ++ [k]) := fun e => by unfold putR; rw [hhh, if_pos e, hxr]
          have HXL : Hid ((x :: r).length ≤ 12) := hxl
          have HRW := Lib.hid hrow
          have HJM := Lib.hid hjm
          have HRC : Hid (∀ s' : BW wr.heap.size wr, Calls Tryd.prog 105 #[.agg #[.slice A1 c.weights.length c1, .slice A2 c.tests.length c2], .int .i64 x, .int .i64 k, .int .i64 out] s'.1 fun e w' => e = .returned (.bool hh) ∧ Below s'.1.heap.size s'.1 w') := fun s' => HRA.out s'.1 x k hh (HBx.out.trans (s'.2.mono (by omega))) hxn hlt hrl
          obtain ⟨r0, r1⟩ := HN.out wr HBx.out
          clear hrow hjm hhh hrl hxl hOi hIi hxn
          have q0 := BW.cell (B := wr.heap.size) (show w.heap.size < wr.heap.size by omega) r0
          have q1 := BW.cell (B := wr.heap.size) (show w.heap.size < wr.heap.size by omega) r1
          have q2 := BW.cell (B := wr.heap.size) hgl m0
          have q3 := BW.cell (B := wr.heap.size) hib i0
          generalize anyTo c out LL k j = fnd at *
          have hlr : (nI (x :: r)).length = r.length + 1 := by rw [nI_len]; rfl
          rw [hlr] at q2 m0
          clear r0 r1 m0 i0
          go_wp2_with fail
          refine wp_region_below wr.heap.size wr (Below.refl _ _) (by kernel_rfl) (by kernel_rfl) ?_
          repeat (go_big_quiet_step ((go_at_call 105; exact quiet_below (Nat.le_refl _) (HRC.out _))))
          refine wpQuiet_nil ?_
          intro s'
          have HB5 := Lib.hid s'.2
          have m5 := q2 s'
          generalize s'.1 = w5 at *
          have hs5 := HB5.out.size
          have HBy := Lib.hid (HBx.out.trans (HB5.out.mono (by omega)))
          have HO5 : Hid (OutRR w5 (w.heap.size + 1) (.slice (some ⟨g, 0, none⟩) LL.length q5) ((raddTo c out LL k j).map nI)) := HOx.out.keep fun b _ hb => HB5.out.block b hb
          clear q0 q1 q2 q3 HRC
          rcases hh with _ | _
          · go_wp2_with fail
            go_roundw
            case rel => exact ⟨j + 1, by omega, by go_num, by rw [HAN.out, Bool.or_false], by rw [HNO.out rfl]; exact HO5.out, HBy.out⟩
            case measure => simp [intOf]; omega
          · have HO6 : Hid (OutRR (w5.alloc (.cells #[.int .i64 k] 3)) (w.heap.size + 1) (.slice (some ⟨g, 0, none⟩) LL.length q5) ((raddTo c out LL k j).map nI)) := HO5.out.keep fun b _ hb => Below.heap_alloc w5 _ b hb
            obtain ⟨g', cap', vi', hv', _, hgl', m0', f0', hOi', hvg', hset'⟩ := HO6.out.at_ HJM.out
            injection hv' with hA' hln' hcap'
            injection hA' with hA'
            injection hA' with hA'
            subst hA'; subst hcap'
            clear hln'
            have hvi' : vi' = .slice (some ⟨ig, 0, none⟩) (r.length + 1) ci := by
              have h9 := m0'.symm.trans ((acell w5 _ g j (by omega)).trans m5)
              injection h9
            subst hvi'
            rw [HRW.out] at hOi'
            have hlx := HXL.out
            have HOi := Lib.hid hOi'
            have HST := Lib.hid hset'
            have HQ0 := Lib.hid (newcell w5 #[.int .i64 k] 3 0)
            have hl6 : (nI (x :: r)).length ≤ 1000000 := by rw [nI_len]; omega
            have hs6 : w.heap.size + 1 ≤ (w5.alloc (.cells #[.int .i64 k] 3)).heap.size := by simp; omega
            have HVG := Lib.hid hvg'
            have HM0 := Lib.hid m0'
            have HF0 := Lib.hid f0'
            have HGL := Lib.hid hgl'
            have HB6 := Lib.hid (HBy.out.alloc (by omega) (Obj.cells #[.int .i64 k] 3))
            clear hset' hOi' hvg' m0' f0' hgl'
            go_wp2_with (at_builtin; refine app_int_lies _ rfl _ _ rfl (w.heap.size + 1) _ (nI (x :: r)) rfl HOi.out w5.heap.size k rfl HQ0.out hl6 hs6 ?_; intro v7 w7 hO7 hg7 hat7; obtain ⟨A7, q7, hv7, _, _⟩ := hO7.lenV; subst hv7; rw [show (nI (x :: r) ++ [(k : Int)]).length = r.length + 1 + 1 by rw [List.length_append, nI_len]; rfl] at hO7 hat7; have c7 := (hg7.cell_far ⟨g, j, none⟩ HGL.out (fun e => HVG.out e.symm)).trans HM0.out; have f7 := (hg7.frozen_far ⟨g, j, none⟩ HGL.out (fun e => HVG.out e.symm)).trans HF0.out; have HO7 := Lib.hid hO7; have HG7 := Lib.hid hg7; have HAT := Lib.hid hat7; clear hO7 hg7 hat7)
            go_roundw
            case rel =>
              refine ⟨j + 1, by omega, by go_num, by rw [HAN.out, Bool.or_true], ?_, ?_⟩
              · rw [HSR.out, HPU.out rfl, List.map_set, nI_snoc]
                exact HST.out w7 w7 _ _ HG7.out HO7.out HAT.out rfl
              · exact (HB6.out.grown HG7.out (by simp; omega) (fun b hb => by have h9 : some ig = some b := hb; injection h9 with h9; omega)).setCell (p := ⟨g, j, none⟩) hgb _
            case measure => simp [intOf]; omega
        · obtain rfl : j = LL.length := by omega
          have HRA2 : Hid (rgroupsS c out (k + 1) = raddTo c out LL k LL.length ++ if anyTo c out LL k LL.length = true then [] else [[k]]) := HSU.out.trans radd_all
          obtain ⟨fnd, hf⟩ : ∃ fnd, anyTo c out LL k LL.length = fnd := ⟨_, rfl⟩
          rw [hf] at HRA2 ⊢
          clear hf
          rcases fnd with _ | _
          · have hbk := HOx.out.lt
            have HBK := Lib.hid hbk
            have hl9 : ((raddTo c out LL k LL.length).map nI).length ≤ 1000000 := by rw [List.length_map, raddTo_len]; omega
            have HB8 := Lib.hid (((Below.refl wr.heap.size wr).alloc (Nat.le_refl _) (Obj.cells #[.int .i64 k] 3)).alloc (by simp) (Obj.cells #[.slice (some ⟨wr.heap.size, 0, none⟩) 1 1] 24))
            have HO8 : Hid (OutI ((wr.alloc (.cells #[.int .i64 k] 3)).alloc (.cells #[.slice (some ⟨wr.heap.size, 0, none⟩) 1 1] 24)) wr.heap.size (.slice (some ⟨wr.heap.size, 0, none⟩) 1 1) (nI [k])) := World.ownsRow.alloc (own_one wr (k : Int)) _
            have HQ8 := Lib.hid (newcell' (w := wr.alloc (.cells #[.int .i64 k] 3)) (cs := #[.slice (some ⟨wr.heap.size, 0, none⟩) 1 1]) (t := 24) (k := 0) (show wr.heap.size + 1 = _ by simp))
            clear hbk
            go_wp2_with (at_builtin; refine app_row wr _ rfl _ _ rfl (w.heap.size + 1) _ _ rfl HOx.out HB8.out _ _ _ rfl HQ8.out HO8.out hl9 hsx ?_; intro v7 w7 hO7 hg7; have HO7 := Lib.hid hO7; have HG7 := Lib.hid hg7; clear hO7 hg7)
            go_roundw
            case rel =>
              refine ⟨k + 1, by omega, by go_num, ?_, (HBx.out.trans (HB8.out.mono hsx)).grown HG7.out (Nat.le_trans hsx HB8.out.size) (fun g hg => (HBK.out g hg).1)⟩
              rw [HRA2.out, if_neg (by decide), List.map_append]
              exact HO7.out
            case measure => simp [intOf]; omega
          · go_wp2_with fail
            go_roundw
            case rel => exact ⟨k + 1, by omega, by go_num, by rw [HRA2.out, if_pos rfl, List.append_nil]; exact HOx.out, HBx.out⟩
            case measure => simp [intOf]; omega
end Go.Proofs.YtonpemikodajdaaDoor
