/- Walks: groups, slices.Equal over sets, Useless. -/
import Derived.Test.YtonpemikodajdaaDoorGa
import Derived.Test.YtonpemikodajdaaDoorBa
import Derived.Deep.Cut
import Derived.Deep.QuietTactic
import Derived.Test.YtonpemikodajdaaDoorCs
/- Walk: groups, the sets of suspects that are alike. -/
namespace Go.Proofs.YtonpemikodajdaaDoor
open Go.RowKit

theorem addS_lt {c : MCase} {out : Int} {L : List Nat} {i : Nat} (h : ∀ m ∈ L, m < 2 ^ i) : ∀ m ∈ addS c out L i, m < 2 ^ (i + 1) := by
  have h2 : 2 ^ i < 2 ^ (i + 1) := Nat.pow_lt_pow_right (by omega) (by omega)
  have hor : ∀ m, m < 2 ^ i → m ||| 2 ^ i < 2 ^ (i + 1) := fun m hm => Nat.or_lt_two_pow (by omega) h2
  unfold addS
  intro m hm
  split at hm
  · rename_i k hk
    have hkl : k < L.length := (List.findIdx?_eq_some_iff_getElem.1 hk).1
    rcases List.mem_or_eq_of_mem_set hm with hm | hm
    · have := h m hm; omega
    · subst hm
      rw [List.getD_eq_getElem?_getD, List.getElem?_eq_getElem hkl]
      exact hor _ (h _ (List.getElem_mem _))
  · rcases List.mem_append.1 hm with hm | hm
    · have := h m hm; omega
    · rw [List.mem_singleton] at hm; omega
theorem groupsS_lt (c : MCase) (out : Int) : ∀ i, ∀ m ∈ groupsS c out i, m < 2 ^ i
  | 0 => fun m hm => by cases hm
  | i + 1 => addS_lt (groupsS_lt c out i)
theorem groupsS_at {c : MCase} {out : Int} {i n j : Nat} (hi : i ≤ n) (hj : j < (groupsS c out i).length) : (groupsS c out i).getD j 0 < 2 ^ n := by
  rw [List.getD_eq_getElem?_getD, List.getElem?_eq_getElem hj]
  exact Nat.lt_of_lt_of_le (groupsS_lt c out i _ (List.getElem_mem _)) (Nat.pow_le_pow_right (by omega) hi)
set_option maxRecDepth 100000 in
set_option maxHeartbeats 8000000 in
theorem groups_any (A1 A2 : Option Addr) (c1 c2 : Nat) (c : MCase) (out : Int) (w : World) (h : CaseA w w.heap.size A1 A2 c) (hT : TabW w) (hc : caseB c = true) :
    Calls Tryd.prog 64 #[.agg #[.slice A1 c.weights.length c1, .slice A2 c.tests.length c2], .int .i64 out] w fun e w' => (∃ v, e = .returned v ∧ OutU w' w.heap.size v (groupsS c out c.weights.length)) ∧ Below w.heap.size w w' := by
  have hok := caseOk hc
  have hn12 := hok.n2
  have hb2 : Below w.heap.size w ((w.alloc (.cells #[.slice A1 c.weights.length c1, .slice A2 c.tests.length c2] 36)).alloc (.cells #[.int .i64 out] 3)) := ((Below.refl _ _).alloc (Nat.le_refl _) _).alloc (by simp) _
  have hsz : ((w.alloc (.cells #[.slice A1 c.weights.length c1, .slice A2 c.tests.length c2] 36)).alloc (.cells #[.int .i64 out] 3)).heap.size = w.heap.size + 2 := by simp
  have n0 : ((w.alloc (.cells #[.slice A1 c.weights.length c1, .slice A2 c.tests.length c2] 36)).alloc (.cells #[.int .i64 out] 3)).cell? ⟨w.heap.size, 0, none⟩ = some (.slice A1 c.weights.length c1) := (acell _ _ _ _ (by simp)).trans (newcell w _ _ _)
  have n1 : ((w.alloc (.cells #[.slice A1 c.weights.length c1, .slice A2 c.tests.length c2] 36)).alloc (.cells #[.int .i64 out] 3)).cell? ⟨w.heap.size, 1, none⟩ = some (.slice A2 c.tests.length c2) := (acell _ _ _ _ (by simp)).trans (newcell w _ _ _)
  have no : ((w.alloc (.cells #[.slice A1 c.weights.length c1, .slice A2 c.tests.length c2] 36)).alloc (.cells #[.int .i64 out] 3)).cell? ⟨w.heap.size + 1, 0, none⟩ = some (.int .i64 out) := newcell' (by simp)
  have N0 := Lib.hid n0
  have N1 := Lib.hid n1
  have NO := Lib.hid no
  have HC := Lib.hid hc
  have HT := Lib.hid hT
  clear hc hT hok n1 no
  go_enter Tryd.func64, Tryd.ntmps64
  go_wp2_with fail
  clear n0
  go_loopw [10, 4] (fun vi v4 wr => ∃ k : Nat, k ≤ c.weights.length ∧ vi = .int .i64 k ∧ Hid (OutU wr (w.heap.size + 2) v4 (groupsS c out k)) ∧ Hid (Below (w.heap.size + 2) ((w.alloc (.cells #[.slice A1 c.weights.length c1, .slice A2 c.tests.length c2] 36)).alloc (.cells #[.int .i64 out] 3)) wr)) (fun vi _ _ => c.weights.length - (intOf vi).toNat)
  case atStart => exact ⟨0, Nat.zero_le _, rfl, OutU.nil _ _, Below.refl _ _⟩
  case round =>
    obtain ⟨k, hk, rfl, HO, HB⟩ := hrel
    have hs := HB.out.size
    rw [hsz] at hs
    by_cases hlt : k < c.weights.length
    rotate_left
    · obtain rfl : k = c.weights.length := by omega
      go_wp2_with fail
      go_ret
      refine ⟨⟨u4, rfl, ?_⟩, hb2.trans (HB.out.mono (by omega))⟩
      exact own_base HO.out (by omega)
    · have hlen := groupsS_len c out k
      have hsucc : groupsS c out (k + 1) = addS c out (groupsS c out k) k := rfl
      have hat : ∀ j, j < (groupsS c out k).length → (groupsS c out k).getD j 0 < 2 ^ c.weights.length := fun j hj => groupsS_at (Nat.le_of_lt hlt) hj
      generalize groupsS c out k = L at *
      have HSU := Lib.hid hsucc
      have HAT := Lib.hid hat
      clear hsucc hat
      have HB1 := Lib.hid (HB.out.alloc (by omega) (Obj.cells #[.int .i64 k] 3))
      have HBw := Lib.hid (hb2.trans (HB1.out.mono (by omega)))
      have hcap : CapA (wr.alloc (.cells #[.int .i64 k] 3)) w.heap.size wr.heap.size (w.heap.size + 1) A1 A2 c1 c2 c k out := ⟨by simp; omega, (bcell HB1.out _ _ (by omega)).trans N0.out, (bcell HB1.out _ _ (by omega)).trans N1.out, newcell _ _ _ _, (bcell HB1.out _ _ (by omega)).trans NO.out⟩
      have HCP := Lib.hid hcap
      have HO1 : Hid (OutU (wr.alloc (.cells #[.int .i64 k] 3)) (w.heap.size + 2) u4 L) := HO.out.keep fun g _ hg => Below.heap_alloc wr _ g hg
      obtain ⟨Al, cl, hv, hcl⟩ := HO1.out.lenV
      subst hv
      have HIX := Lib.hid (idx100 w.heap.size wr.heap.size (w.heap.size + 1) A1 A2 c1 c2 c k out Al cl L (wr.alloc (.cells #[.int .i64 k] 3)) hcap ((h.keep HBw.out).more HBw.out.size) (HT.out.keep HBw.out) HC.out hlt (HO1.out.masks (by omega)) HAT.out)
      have hszr : (wr.alloc (.cells #[.int .i64 k] 3)).heap.size = wr.heap.size + 1 := by simp
      have hq12 : 2 ^ k < 4096 := by
        have : 2 ^ k < 2 ^ 12 := Nat.pow_lt_pow_right (by omega) (show k < 12 by omega)
        exact this
      clear hcap
      go_upto_region 5 with (go_at_call 100; refine HIX.out.mono ?_; rintro e w3 ⟨⟨r, rfl, hr⟩, hb3⟩; have HRX := Lib.hid hr; have HB3 := Lib.hid hb3; clear hr hb3)
      have HCP3 := Lib.hid (HCP.out.below HB3.out)
      have ki := HCP3.out.ki
      have HO3 : Hid (OutU w3 (w.heap.size + 2) (.slice Al L.length cl) L) := HO1.out.keep fun g _ hg => HB3.out.block g hg
      have HBz := Lib.hid (HB1.out.trans (HB3.out.mono (by omega)))
      have hs3 := HB3.out.size
      have hcast : ((2 : Int) ^ k) = ((2 ^ k : Nat) : Int) := by simp
      have h4096 : ∀ j, j < L.length → L.getD j 0 < 4096 := fun j hj => Nat.lt_of_lt_of_le (HAT.out j hj) (Nat.pow_le_pow_right (by omega) hn12)
      have H4 := Lib.hid h4096
      clear h4096
      rcases HRX.out with ⟨kk, rfl, hkk, hyes, hfirst⟩ | ⟨rfl, hno⟩
      · have HAD : Hid (groupsS c out (k + 1) = L.set kk (L.getD kk 0 ||| 2 ^ k)) := by show _ = _; rw [HSU.out]; exact addS_hit hkk hyes hfirst
        obtain ⟨g, hg⟩ : ∃ g, Al = some ⟨g, 0, none⟩ := by
          rcases HO3.out.2 with ⟨_, h0⟩ | ⟨g, cap', cur, hv, _⟩
          · omega
          · injection hv with hA
            exact ⟨g, hA⟩
        subst hg
        obtain ⟨b, off, hA, _, m0⟩ := (HO3.out.masks (by omega)).at_ hkk
        injection hA with hA
        injection hA with e1 e2
        subst e1; subst e2
        rw [Nat.zero_add] at m0
        have hfz : w3.frozen? ⟨g, kk, none⟩ = false := by
          rcases HO3.out.2 with ⟨_, h0⟩ | ⟨g', cap', cur, hv, _, hb, _⟩
          · omega
          · injection hv with hA
            injection hA with hA
            injection hA with hA
            subst hA
            simp [World.frozen?, hb]
        have hglt := own_block_lt HO3.out g rfl
        have hm4 := H4.out kk hkk
        have hneg : decide ((kk : Int) < 0) = false := decide_eq_false (by omega)
        clear hyes hfirst
        generalize L.getD kk 0 = m at *
        generalize (2 ^ k : Nat) = q at *
        have e1 : IntKind.u64.wrap ((2 : Int) ^ k) = (q : Int) := by rw [hcast]; exact IntWalk.u64_in _ (by omega)
        have e2 : bits BinOp.or IntKind.u64 (m : Int) (q : Int) = ((m ||| q : Nat) : Int) := u64_or_nat _ _ (by omega) (by omega)
        clear hcast
        go_wp2_with fail
        refine wp_region_quiet_tail 8 (by kernel_rfl) (by kernel_rfl) ?_
        simp only [List.take_succ_cons, List.take_zero, List.drop_succ_cons, List.drop_zero]
        repeat (go_big_quiet_step (fail))
        refine wpQuiet_nil ?_
        go_wp2_with fail
        go_roundw
        case rel =>
          refine ⟨k + 1, by omega, by go_num, ?_, ?_⟩
          · rw [HAD.out]
            exact ((HO3.out.keep fun _ _ _ => rfl : OutU w3.drew (w.heap.size + 2) _ L).put rfl kk (m ||| q))
          · exact HBz.out.drew.setCell (p := ⟨g, kk, none⟩) hglt.1 _
        case measure => simp [intOf]; omega
      · have HAD : Hid (groupsS c out (k + 1) = L ++ [2 ^ k]) := by show _ = _; rw [HSU.out]; exact addS_miss hno
        have hneg : decide ((-1 : Int) < 0) = true := by decide
        clear hno
        generalize (2 ^ k : Nat) = q at *
        have e1 : IntKind.u64.wrap ((2 : Int) ^ k) = (q : Int) := by rw [hcast]; exact IntWalk.u64_in _ (by omega)
        clear hcast
        have HO4 : Hid (OutU (w3.alloc (.cells #[.int .u64 (q : Int)] 97)) (w.heap.size + 2) (.slice Al L.length cl) L) := HO3.out.keep fun g _ hg => Below.heap_alloc w3 _ g hg
        have HQ0 := Lib.hid (newcell w3 #[.int .u64 (q : Int)] 97 0)
        have HB4 := Lib.hid (HBz.out.alloc (by omega) (Obj.cells #[.int .u64 (q : Int)] 97))
        have hvl := own_block_lt HO4.out
        have HVL := Lib.hid hvl
        clear hvl
        go_wp2_with (at_builtin; refine app_mask _ rfl _ _ rfl (w.heap.size + 2) _ L rfl HO4.out w3.heap.size q rfl HQ0.out (by omega) (by simp; omega) ?_; intro v7 w7 hO7 hg7; have HO7 := Lib.hid hO7; have HG7 := Lib.hid hg7; clear hO7 hg7)
        go_roundw
        case rel => exact ⟨k + 1, by omega, by go_num, by rw [HAD.out]; exact HO7.out, HB4.out.grown HG7.out (by simp; omega) (fun k hk => (HVL.out k hk).1)⟩
        case measure => simp [intOf]; omega
end Go.Proofs.YtonpemikodajdaaDoor

/- Walk: slices.Equal over sets of suspects. -/
namespace Go.Proofs.YtonpemikodajdaaDoor
open Go.RowKit

theorem eqL_no {L M : List Nat} {k : Nat} (h : L.getD k 0 ≠ M.getD k 0) : decide (L = M) = false := decide_eq_false fun e => h (by rw [e])
theorem eqL_yes {L M : List Nat} (hl : L.length = M.length) (h : ∀ j, j < L.length → L.getD j 0 = M.getD j 0) : decide (L = M) = true := decide_eq_true (List.ext_getElem hl fun j h1 h2 => by
  have h3 := h j h1
  rw [List.getD_eq_getElem?_getD, List.getElem?_eq_getElem h1, List.getD_eq_getElem?_getD, List.getElem?_eq_getElem h2] at h3
  exact h3)
set_option maxRecDepth 100000 in
set_option maxHeartbeats 2000000 in
theorem equal_any (A A' : Option Addr) (c c' : Nat) (L M : List Nat) (w : World) (h : MasksA w w.heap.size A L) (h' : MasksA w w.heap.size A' M) {r : Bool} (hr : decide (L = M) = r) :
    Calls Tryd.prog 71 #[.slice A L.length c, .slice A' M.length c'] w fun e w' => e = .returned (.bool r) ∧ Below w.heap.size w w' := by
  have hlen := h.1
  have hlen' := h'.1
  unfold maxLen at hlen hlen'
  have HR := Lib.hid hr
  clear hr
  by_cases hl : L.length = M.length
  · have HL := Lib.hid hl
    rw [← hl]
    clear hl
    go_enter Tryd.func71, Tryd.ntmps71
    go_wp2_with fail
    go_loopw [13] (fun vi wr => ∃ k : Nat, k ≤ L.length ∧ vi = .int .i64 k ∧ Hid (∀ j, j < k → L.getD j 0 = M.getD j 0) ∧ Below w.heap.size w wr) (fun vi _ => L.length - (intOf vi).toNat)
    case atStart => exact ⟨0, Nat.zero_le _, rfl, (fun j hj => by omega), Below.refl _ _⟩
    case round =>
      obtain ⟨k, hk, rfl, HI, hbw⟩ := hrel
      by_cases hlt : k < L.length
      · obtain ⟨b, off, rfl, _, t0⟩ := (h.keep hbw).at_ hlt
        obtain ⟨b', off', rfl, _, t1⟩ := (h'.keep hbw).at_ (show k < M.length by rw [← HL.out]; exact hlt)
        obtain ⟨x, hx⟩ : ∃ x, L.getD k 0 = x := ⟨_, rfl⟩
        obtain ⟨y, hy⟩ : ∃ y, M.getD k 0 = y := ⟨_, rfl⟩
        rw [hx] at t0
        rw [hy] at t1
        have HX := Lib.hid hx
        have HY := Lib.hid hy
        clear hx hy
        have hbd : Below w.heap.size w wr → ∀ n, Below w.heap.size w (wr.drewN n) := fun hb n => ⟨hb.os, hb.tape, hb.output, hb.size, hb.block⟩
        have HBD := Lib.hid (hbd hbw)
        clear hbd
        by_cases he : x = y
        · have hne : ((x : Int) != (y : Int)) = false := by rw [he]; simp
          have HE := Lib.hid he
          clear he
          go_wp2_with fail
          go_quiet (fail)
          go_wp2_with fail
          go_roundw
          case rel => exact ⟨k + 1, by omega, by go_num, nat_snoc HI.out (by rw [HX.out, HY.out]; exact HE.out), HBD.out _⟩
          case measure => simp [intOf]; omega
        · have hne : ((x : Int) != (y : Int)) = true := by rw [bne_iff_ne]; omega
          have HE : Hid (x ≠ y) := he
          clear he
          go_wp2_with fail
          go_quiet (fail)
          go_wp2_with fail
          go_ret
          exact ⟨ret_b (by rw [← HR.out]; exact (eqL_no (k := k) (by rw [HX.out, HY.out]; exact HE.out)).symm), HBD.out _⟩
      · obtain rfl : k = L.length := by omega
        go_wp2_with fail
        go_ret
        exact ⟨ret_b (by rw [← HR.out]; exact (eqL_yes HL.out HI.out).symm), hbw⟩
  · have hne : ((L.length : Int) != (M.length : Int)) = true := by rw [bne_iff_ne]; omega
    have HL : Hid (¬ L.length = M.length) := hl
    clear hl
    go_enter Tryd.func71, Tryd.ntmps71
    go_wp2_with fail
    go_ret
    exact ⟨ret_b (by rw [← HR.out]; exact (decide_eq_false (fun e => HL.out (by rw [e]))).symm), Below.refl _ _⟩
end Go.Proofs.YtonpemikodajdaaDoor

/- Walk: diagnose.Useless. -/
namespace Go.Proofs.YtonpemikodajdaaDoor
open Go.RowKit

def uselessTo (c : MCase) : Nat → List Int
  | 0 => []
  | k + 1 => if groupsS c (-1) c.weights.length = groupsS c (k : Int) c.weights.length then uselessTo c k ++ [(k : Int)] else uselessTo c k
theorem uselessTo_len (c : MCase) : ∀ k, (uselessTo c k).length ≤ k
  | 0 => Nat.le_refl 0
  | k + 1 => by
    have := uselessTo_len c k
    unfold uselessTo
    split
    · rw [List.length_append, List.length_singleton]; omega
    · omega
set_option maxRecDepth 100000 in
set_option maxHeartbeats 8000000 in
theorem useless_any (A1 A2 : Option Addr) (c1 c2 : Nat) (c : MCase) (w : World) (h : CaseA w w.heap.size A1 A2 c) (hT : TabW w) :
    Calls Tryd.prog 30 #[.agg #[.slice A1 c.weights.length c1, .slice A2 c.tests.length c2]] w fun e w' => (∃ v, e = .returned (.tuple #[v, .int .i64 (checkC c)]) ∧ OutI w' w.heap.size v (if caseB c = true then uselessTo c c.tests.length else [])) ∧ Below w.heap.size w w' := by
  have hb1 : Below w.heap.size w (w.alloc (.cells #[.slice A1 c.weights.length c1, .slice A2 c.tests.length c2] 36)) := (Below.refl _ _).alloc (Nat.le_refl _) _
  have hsz : (w.alloc (.cells #[.slice A1 c.weights.length c1, .slice A2 c.tests.length c2] 36)).heap.size = w.heap.size + 1 := by simp
  have n0 := newcell w #[.slice A1 c.weights.length c1, .slice A2 c.tests.length c2] 36 0
  have n1 := newcell w #[.slice A1 c.weights.length c1, .slice A2 c.tests.length c2] 36 1
  simp only [List.getElem?_toArray, List.getElem?_cons_succ, List.getElem?_cons_zero] at n0 n1
  obtain ⟨E, hE⟩ : ∃ E, checkC c = E := ⟨_, rfl⟩
  have HCK := Lib.hid (check_any A1 A2 c1 c2 c (w.alloc (.cells #[.slice A1 c.weights.length c1, .slice A2 c.tests.length c2] 36)) ((h.keep hb1).more hb1.size) hE)
  rw [hE]
  have HT := Lib.hid hT
  clear hT
  rcases hv : caseB c
  · have hEv : E = 101 := by rw [← hE, checkC_no hv]
    subst hEv
    clear hE hv
    go_enter Tryd.func30, Tryd.ntmps30
    go_wp2_with (go_at_call 27; refine HCK.out.mono ?_; rintro e w2 ⟨rfl, hb2⟩)
    go_ret2
    exact ⟨⟨_, rfl, OutI.nil _ _⟩, hb1.trans (hb2.mono (by omega))⟩
  · have hEv : E = 0 := by rw [← hE, checkC_yes hv]
    subst hEv
    have hok := caseOk hv
    have hm12 := hok.t
    have HV := Lib.hid hv
    clear hE hv hok
    have HN : Hid (∀ wx, Below (w.heap.size + 1) (w.alloc (.cells #[.slice A1 c.weights.length c1, .slice A2 c.tests.length c2] 36)) wx → wx.cell? ⟨w.heap.size, 0, none⟩ = some (.slice A1 c.weights.length c1) ∧ wx.cell? ⟨w.heap.size, 1, none⟩ = some (.slice A2 c.tests.length c2)) := fun wx hb => ⟨(bcell hb _ _ (by omega)).trans n0, (bcell hb _ _ (by omega)).trans n1⟩
    have HGR : Hid (∀ (wx : World) (out : Int), Below (w.heap.size + 1) (w.alloc (.cells #[.slice A1 c.weights.length c1, .slice A2 c.tests.length c2] 36)) wx → Calls Tryd.prog 64 #[.agg #[.slice A1 c.weights.length c1, .slice A2 c.tests.length c2], .int .i64 out] wx fun e w' => (∃ v, e = .returned v ∧ OutU w' wx.heap.size v (groupsS c out c.weights.length)) ∧ Below wx.heap.size wx w') := fun wx out hb => groups_any A1 A2 c1 c2 c out wx ((h.keep (hb1.trans (hb.mono (by omega)))).more (by have := hb.size; omega)) (HT.out.keep (hb1.trans (hb.mono (by omega)))) HV.out
    go_enter Tryd.func30, Tryd.ntmps30
    go_wp2_with (first | (go_at_call 27; refine HCK.out.mono ?_; rintro e w2 ⟨rfl, hb2⟩; have HB2 : Hid (Below (w.heap.size + 1) (w.alloc (.cells #[.slice A1 c.weights.length c1, .slice A2 c.tests.length c2] 36)) w2) := hb2.mono (by omega); obtain ⟨p0, p1⟩ := HN.out w2 HB2.out; clear hb2) | (go_at_call 64; refine (HGR.out _ _ HB2.out).mono ?_; rintro e w3 ⟨⟨v3, rfl, hO3⟩, hb3⟩; have HO3 := Lib.hid hO3; obtain ⟨Aa, ca, hva, _⟩ := HO3.out.lenV; subst hva; have HB3 : Hid (Below (w.heap.size + 1) (w.alloc (.cells #[.slice A1 c.weights.length c1, .slice A2 c.tests.length c2] 36)) w3) := HB2.out.trans (hb3.mono (by have := HB2.out.size; omega)); obtain ⟨r0, r1⟩ := HN.out w3 HB3.out; clear hO3 hb3))
    clear n0 n1 p0 p1 r0 r1
    go_loopw [17, 2] (fun vi v2 wr => ∃ k : Nat, k ≤ c.tests.length ∧ vi = .int .i64 k ∧ Hid (OutI wr w3.heap.size v2 (uselessTo c k)) ∧ Hid (Below w3.heap.size w3 wr)) (fun vi _ _ => c.tests.length - (intOf vi).toNat)
    case atStart => exact ⟨0, Nat.zero_le _, rfl, OutI.nil _ _, Below.refl _ _⟩
    case round =>
      obtain ⟨k, hk, rfl, HOI, HB⟩ := hrel
      have HB4 : Hid (Below (w.heap.size + 1) (w.alloc (.cells #[.slice A1 c.weights.length c1, .slice A2 c.tests.length c2] 36)) wr) := HB3.out.trans (HB.out.mono (by have := HB3.out.size; omega))
      have hs3 := HB3.out.size
      rw [hsz] at hs3
      have hsr := HB.out.size
      by_cases hlt : k < c.tests.length
      rotate_left
      · obtain rfl : k = c.tests.length := by omega
        go_wp2_with fail
        go_ret2
        exact ⟨⟨u2, rfl, own_base HOI.out (by omega)⟩, hb1.trans (HB4.out.mono (by omega))⟩
      · obtain ⟨p0, p1⟩ := HN.out wr HB4.out
        have hn12 : c.weights.length ≤ 12 := (caseOk HV.out).n2
        have hle1 : (groupsS c (-1) c.weights.length).length ≤ 1000000 := Nat.le_trans (groupsS_len _ _ _) (by omega)
        have hle2 : (groupsS c (k : Int) c.weights.length).length ≤ 1000000 := Nat.le_trans (groupsS_len _ _ _) (by omega)
        have HG := Lib.hid (HGR.out wr (k : Int) HB4.out)
        obtain ⟨x, hx⟩ : ∃ x, decide (groupsS c (-1) c.weights.length = groupsS c (k : Int) c.weights.length) = x := ⟨_, rfl⟩
        have hul : (uselessTo c k).length ≤ 1000000 := Nat.le_trans (uselessTo_len c k) (by omega)
        have hus : uselessTo c (k + 1) = if x = true then uselessTo c k ++ [(k : Int)] else uselessTo c k := by
          rw [← hx]
          show (if _ then _ else _) = _
          by_cases e : groupsS c (-1) c.weights.length = groupsS c (k : Int) c.weights.length
          · rw [if_pos e, if_pos (decide_eq_true e)]
          · rw [if_neg e, if_neg (by rw [decide_eq_false e]; decide)]
        have HUS := Lib.hid hus
        have HEQ : Hid (∀ (w5 : World) (A5 : Option Addr) (c5 : Nat), Below wr.heap.size wr w5 → OutU w5 wr.heap.size (.slice A5 (groupsS c (k : Int) c.weights.length).length c5) (groupsS c (k : Int) c.weights.length) → Calls Tryd.prog 71 #[.slice Aa (groupsS c (-1) c.weights.length).length ca, .slice A5 (groupsS c (k : Int) c.weights.length).length c5] w5 fun e w' => e = .returned (.bool x) ∧ Below w5.heap.size w5 w') := fun w5 A5 c5 hb5 hO5 =>
          equal_any Aa A5 ca c5 _ _ w5 ((HO3.out.keep fun g _ hg => (HB.out.trans (hb5.mono hsr)).block g hg).masks hle1) (hO5.masks hle2) hx
        have hvl := own_block_lt HOI.out
        have HVL := Lib.hid hvl
        clear hx hus hvl hle1
        generalize groupsS c (k : Int) c.weights.length = G at *
        generalize groupsS c (-1) c.weights.length = F at *
        rcases x with _ | _
        · go_wp2_with (first | (go_at_call 64; refine HG.out.mono ?_; rintro e w5 ⟨⟨v5, rfl, hO5⟩, hb5⟩; obtain ⟨A5, c5, hv5, _⟩ := hO5.lenV; subst hv5; have HO5 := Lib.hid hO5; have HB5 := Lib.hid hb5; clear hO5 hb5) | (go_at_call 71; refine (HEQ.out _ _ _ HB5.out HO5.out).mono ?_; rintro e w6 ⟨rfl, hb6⟩; have HB6 := Lib.hid (HB5.out.trans (hb6.mono HB5.out.size)); clear hb6))
          go_roundw
          case rel => exact ⟨k + 1, by omega, by go_num, by rw [HUS.out]; exact own_below HOI.out HB6.out (fun g hg => (HVL.out g hg).2), HB.out.trans (HB6.out.mono hsr)⟩
          case measure => simp [intOf]; omega
        · go_wp2_with (first | (go_at_call 64; refine HG.out.mono ?_; rintro e w5 ⟨⟨v5, rfl, hO5⟩, hb5⟩; obtain ⟨A5, c5, hv5, _⟩ := hO5.lenV; subst hv5; have HO5 := Lib.hid hO5; have HB5 := Lib.hid hb5; clear hO5 hb5) | (go_at_call 71; refine (HEQ.out _ _ _ HB5.out HO5.out).mono ?_; rintro e w6 ⟨rfl, hb6⟩; have HB6 := Lib.hid ((HB5.out.trans (hb6.mono HB5.out.size)).alloc (by have := HB5.out.size; have := hb6.size; omega) (Obj.cells #[.int .i64 k] 3)); have HO6 := Lib.hid (own_below HOI.out HB6.out (fun g hg => (HVL.out g hg).2)); have HQ0 := Lib.hid (newcell w6 #[.int .i64 k] 3 0); have HS6 : Hid (w3.heap.size ≤ (w6.alloc (.cells #[.int .i64 k] 3)).heap.size) := Nat.le_trans hsr HB6.out.size; clear hb6) | (at_builtin; refine app_int _ rfl _ _ rfl w3.heap.size u2 (uselessTo c k) rfl HO6.out w6.heap.size k rfl HQ0.out hul HS6.out ?_; intro v7 w7 hO7 hg7; have HO7 := Lib.hid hO7; have HG7 := Lib.hid hg7; clear hO7 hg7))
          go_roundw
          case rel => exact ⟨k + 1, by omega, by go_num, by rw [HUS.out]; exact HO7.out, (HB.out.trans (HB6.out.mono hsr)).grown HG7.out HS6.out (fun g hg => (HVL.out g hg).1)⟩
          case measure => simp [intOf]; omega
end Go.Proofs.YtonpemikodajdaaDoor
