/- Walk: the law DiagnoseFinds. -/
import Derived.Test.YtonpemikodajdaaDoorCo
import Derived.Test.YtonpemikodajdaaDoorTl
import Derived.Test.YtonpemikodajdaaDoorWk
namespace Go.Proofs.YtonpemikodajdaaDoor
open Go.RowKit

def bigB (c : MCase) : Bool := decide ((9 : Int) < c.weights.length) && decide ((c.weights.length : Int) ≤ 12) || (decide ((8 : Int) < c.tests.length) && decide ((c.tests.length : Int) ≤ 12))
set_option maxRecDepth 100000 in
theorem big_any (A1 A2 : Option Addr) (c1 c2 : Nat) (c : MCase) (w : World) {r : Bool} (hr : bigB c = r) :
    Calls Tryd.prog 19 #[.agg #[.slice A1 c.weights.length c1, .slice A2 c.tests.length c2]] w fun e w' => e = .returned (.bool r) ∧ Below w.heap.size w w' := by
  have hb1 : Below w.heap.size w (w.alloc (.cells #[.slice A1 c.weights.length c1, .slice A2 c.tests.length c2] 36)) := (Below.refl _ _).alloc (Nat.le_refl _) _
  unfold bigB at hr
  rcases h1 : decide ((9 : Int) < c.weights.length)
  all_goals rcases h2 : decide ((c.weights.length : Int) ≤ 12)
  all_goals rcases h3 : decide ((8 : Int) < c.tests.length)
  all_goals rcases h4 : decide ((c.tests.length : Int) ≤ 12)
  all_goals
    rw [h1, h2, h3, h4] at hr
    have hr := hr.symm
    subst hr
    go_enter Tryd.func19, Tryd.ntmps19
    go_wp2_with fail
    go_ret
    exact ⟨rfl, hb1⟩
/-- one of the first i rows has x -/
def ownTo (LL : List (List Int)) (x : Int) : Nat → Bool
  | 0 => false
  | i + 1 => ownTo LL x i || hasI (LL.getD i []) x
theorem ownTo_succ {LL : List (List Int)} {x : Int} {i : Nat} {row : List Int} (h : LL[i]? = some row) : ownTo LL x (i + 1) = (ownTo LL x i || hasI row x) := by
  rw [ownTo, List.getD_eq_getElem?_getD, h]
  rfl
theorem ownTo_yes {LL : List (List Int)} {x : Int} {j : Nat} (h : hasI (LL.getD j []) x = true) : ∀ {i : Nat}, j < i → ownTo LL x i = true
  | i + 1, hj => by
    rw [ownTo]
    by_cases e : j = i
    · subst e; rw [h, Bool.or_true]
    · rw [ownTo_yes h (i := i) (by omega), Bool.true_or]
theorem hasI_take {row : List Int} {x : Int} {q : Nat} (hq : q < row.length) : hasI (row.take (q + 1)) x = (hasI (row.take q) x || decide (row.getD q 0 = x)) := by
  rw [List.take_succ_eq_append_getElem hq, List.getD_eq_getElem?_getD, List.getElem?_eq_getElem hq]
  unfold hasI
  show (row.take q ++ [row[q]]).contains x = ((row.take q).contains x || decide (row[q] = x))
  rw [Bool.eq_iff_iff, List.contains_iff_mem, Bool.or_eq_true, List.contains_iff_mem, decide_eq_true_eq, List.mem_append, List.mem_singleton]
  exact ⟨fun h => h.imp id Eq.symm, fun h => h.imp id Eq.symm⟩
theorem hasI_bits {m x : Nat} (hx : x < 12) : hasI (bitsI m) (x : Int) = m.testBit x := by
  unfold hasI
  rw [Bool.eq_iff_iff]
  unfold bitsI
  rw [List.contains_iff_mem, List.mem_map]
  constructor
  · rintro ⟨j, hj, e⟩
    have e : (j : Int) = (x : Int) := e
    have e : j = x := by omega
    subst e
    exact (mem_bitsOf.1 hj).2
  · exact fun h => ⟨x, mem_bitsOf.2 ⟨hx, h⟩, rfl⟩
/-- the groups' rows, for one suspect -/
theorem finds_rows {c : MCase} {F : List MFork} {S : NN} (hc : CaseOk c) (hT : TreeOk c F S) (hS : ∀ i, S i < 2 ^ c.weights.length) {x : Nat} (hx : x < c.weights.length) :
    ownTo ((groupsS c (-1) c.weights.length).map bitsI) x ((groupsS c (-1) c.weights.length).map bitsI).length = true ∧ ∀ (i : Nat) (row : List Int), ((groupsS c (-1) c.weights.length).map bitsI)[i]? = some row → hasI row (x : Int) = true → row = (fk F (leafT c F x)).set := by
  have hn2 := hc.n2
  have hat : ∀ i, i < (groupsS c (-1) c.weights.length).length → ((groupsS c (-1) c.weights.length).map bitsI)[i]? = some (bitsI ((groupsS c (-1) c.weights.length).getD i 0)) := fun i hi => by
    rw [List.getElem?_map, List.getD_eq_getElem?_getD, List.getElem?_eq_getElem hi]
    rfl
  constructor
  · obtain ⟨k, hk, hb⟩ := (groups_ok hc (-1) (Nat.le_refl c.weights.length)).cov x hx
    refine ownTo_yes (j := k) ?_ (by rw [List.length_map]; exact hk)
    rw [List.getD_eq_getElem?_getD, hat k hk]
    show hasI (bitsI _) _ = true
    rw [hasI_bits (by omega)]
    exact hb
  · intro i row h1 h2
    have hi : i < (groupsS c (-1) c.weights.length).length := by
      have := (List.getElem?_eq_some_iff.1 h1).1
      rwa [List.length_map] at this
    rw [hat i hi] at h1
    injection h1 with h1
    subst h1
    rw [hasI_bits (by omega)] at h2
    exact leaf_set hc hT hS hi h2
theorem forks_len {c : MCase} {F : List MFork} {S : NN} (hT : TreeOk c F S) {i : Nat} (hi : i < F.length) : (fk F i).next.length ≤ maxLen ∧ (fk F i).set.length ≤ maxLen := by
  unfold maxLen
  have h1 := bitsI_len (S i)
  rw [hT.set i hi]
  by_cases ht : (fk F i).test = -1
  · have := (hT.leaf i hi ht).1
    omega
  · have := (hT.node i hi ht).2.2.1
    omega
theorem caseB_pos {c : MCase} (h : caseB c = true) : 0 < c.weights.length := (caseOk h).n1

set_option maxRecDepth 100000 in
set_option maxHeartbeats 8000000 in
theorem lawFinds_main (xb xo : Nat) (A2 : Option Addr) (c1 c2 : Nat) (c : MCase) (w : World) (h : CaseA w w.heap.size (some ⟨xb, xo, none⟩) A2 c) (hT : TabW w) (hcb : caseB c = true) (hbig : bigB c = false) :
    Calls Tryd.prog 14 #[.agg #[.slice (some ⟨xb, xo, none⟩) c.weights.length c1, .slice A2 c.tests.length c2]] w fun e w' => e = .returned (.bool true) ∧ Below w.heap.size w w' := by
  have hb1 : Below w.heap.size w (w.alloc (.cells #[.slice (some ⟨xb, xo, none⟩) c.weights.length c1, .slice A2 c.tests.length c2] 36)) := (Below.refl _ _).alloc (Nat.le_refl _) _
  have hsz : (w.alloc (.cells #[.slice (some ⟨xb, xo, none⟩) c.weights.length c1, .slice A2 c.tests.length c2] 36)).heap.size = w.heap.size + 1 := by simp
  have n0 := newcell w #[.slice (some ⟨xb, xo, none⟩) c.weights.length c1, .slice A2 c.tests.length c2] 36 0
  have n1 := newcell w #[.slice (some ⟨xb, xo, none⟩) c.weights.length c1, .slice A2 c.tests.length c2] 36 1
  simp only [List.getElem?_toArray, List.getElem?_cons_succ, List.getElem?_cons_zero] at n0 n1
  have HC : Hid (∀ wx, Below (w.heap.size + 1) (w.alloc (.cells #[.slice (some ⟨xb, xo, none⟩) c.weights.length c1, .slice A2 c.tests.length c2] 36)) wx → CaseA wx wx.heap.size (some ⟨xb, xo, none⟩) A2 c ∧ TabW wx) := fun wx hb => by
    have hbw := hb1.trans (hb.mono (by omega))
    exact ⟨(h.keep hbw).more hbw.size, hT.keep hbw⟩
  have HN : Hid (∀ wx, Below (w.heap.size + 1) (w.alloc (.cells #[.slice (some ⟨xb, xo, none⟩) c.weights.length c1, .slice A2 c.tests.length c2] 36)) wx → wx.cell? ⟨w.heap.size, 0, none⟩ = some (.slice (some ⟨xb, xo, none⟩) c.weights.length c1) ∧ wx.cell? ⟨w.heap.size, 1, none⟩ = some (.slice A2 c.tests.length c2)) := fun wx hb => ⟨(bcell hb _ _ (by omega)).trans n0, (bcell hb _ _ (by omega)).trans n1⟩
  have HW : Hid (∀ wx, Below (w.heap.size + 1) (w.alloc (.cells #[.slice (some ⟨xb, xo, none⟩) c.weights.length c1, .slice A2 c.tests.length c2] 36)) wx → Calls Tryd.prog 18 #[] wx fun e w' => e = .returned (.bool true) ∧ Below wx.heap.size wx w') := fun wx hb => works_any wx (HC.out wx hb).2
  have hok := caseOk hcb
  have HOK := Lib.hid hok
  have hn1 := hok.n1
  have hn2 := hok.n2
  have hm12 := hok.t
  obtain ⟨F, hFF⟩ : ∃ F, growS c (fullS c) 0 = F := ⟨_, rfl⟩
  obtain ⟨GG, hGG⟩ : ∃ GG, (groupsS c (-1) c.weights.length).map bitsI = GG := ⟨_, rfl⟩
  obtain ⟨K, hK⟩ : ∃ K, (bestS c (fullS c)).2 = K := ⟨_, rfl⟩
  have hright : rightB c F = true := by rw [← hFF]; exact guide_right hok
  have hcost : costTo c F c.weights.length = K := by rw [← hFF, ← hK]; exact guide_cost hok
  have hgE : guideE c F = 0 := guideE_yes hcb hright
  have hcE : costE c F = K := by unfold costE; rw [hgE, if_pos rfl]; exact hcost
  obtain ⟨S, hTr, hS⟩ := tree_ok hok hright
  have hF1 := hTr.n1
  have hF5 := hTr.n2
  have H19 : Hid (Calls Tryd.prog 19 #[.agg #[.slice (some ⟨xb, xo, none⟩) c.weights.length c1, .slice A2 c.tests.length c2]] (w.alloc (.cells #[.slice (some ⟨xb, xo, none⟩) c.weights.length c1, .slice A2 c.tests.length c2] 36)) fun e w' => e = .returned (.bool false) ∧ Below (w.alloc (.cells #[.slice (some ⟨xb, xo, none⟩) c.weights.length c1, .slice A2 c.tests.length c2] 36)).heap.size (w.alloc (.cells #[.slice (some ⟨xb, xo, none⟩) c.weights.length c1, .slice A2 c.tests.length c2] 36)) w') := big_any _ _ _ _ _ _ hbig
  have H20 : Hid (∀ wx, Below (w.heap.size + 1) (w.alloc (.cells #[.slice (some ⟨xb, xo, none⟩) c.weights.length c1, .slice A2 c.tests.length c2] 36)) wx → Calls Tryd.prog 20 #[.agg #[.slice (some ⟨xb, xo, none⟩) c.weights.length c1, .slice A2 c.tests.length c2]] wx fun e w' => ∃ At ct, e = .returned (.tuple #[.slice At F.length ct, .int .i64 K, .int .i64 0]) ∧ ForksA w' w'.heap.size At F ∧ Below wx.heap.size wx w') := fun wx hb => by
    refine (guide_any _ _ c1 c2 c wx (HC.out wx hb).1 (HC.out wx hb).2).mono ?_
    rintro e w' ⟨hb', ⟨h9, _⟩ | ⟨_, v, he, hO⟩⟩
    · rw [hcb] at h9; cases h9
    · rw [hFF] at hO
      obtain ⟨At, ct, hv, _⟩ := hO.lenV
      rw [hv] at hO
      exact ⟨At, ct, by rw [he, hv, hK], hO.forks (by unfold maxLen; omega) fun i hi => forks_len hTr hi, hb'⟩
  have H25 : Hid (∀ wx, Below (w.heap.size + 1) (w.alloc (.cells #[.slice (some ⟨xb, xo, none⟩) c.weights.length c1, .slice A2 c.tests.length c2] 36)) wx → Calls Tryd.prog 25 #[.agg #[.slice (some ⟨xb, xo, none⟩) c.weights.length c1, .slice A2 c.tests.length c2]] wx fun e w' => ∃ gb go cg, e = .returned (.tuple #[.slice (some ⟨gb, go, none⟩) GG.length cg, .int .i64 0]) ∧ RowsA w' w'.heap.size (some ⟨gb, go, none⟩) GG ∧ Below wx.heap.size wx w') := fun wx hb => by
    refine (groups25_any _ _ c1 c2 c wx (HC.out wx hb).1 (HC.out wx hb).2).mono ?_
    rintro e w' ⟨⟨v, he, hO⟩, hb'⟩
    rw [if_pos hcb, hGG] at hO
    obtain ⟨Ag, cg, hv, _⟩ := hO.lenV
    rw [hv] at hO
    have hgl : GG.length ≤ 12 := by
      have := groupsS_len c (-1) c.weights.length
      rw [← hGG, List.length_map]
      omega
    have hR := hO.rows (by unfold maxLen; omega)
    have hg0 : 0 < GG.length := by
      obtain ⟨k, hk, _⟩ := (groups_ok hok (-1) (Nat.le_refl c.weights.length)).cov 0 (by omega)
      rw [← hGG, List.length_map]
      omega
    obtain ⟨_, gb, go, _, _, _, hA, _⟩ := hR.at_ hg0
    subst hA
    exact ⟨gb, go, cg, by rw [he, hv, checkC_yes hcb], hR, hb'⟩
  have H38 : Hid (∀ (At : Option Addr) (ct : Nat) wx, Below (w.heap.size + 1) (w.alloc (.cells #[.slice (some ⟨xb, xo, none⟩) c.weights.length c1, .slice A2 c.tests.length c2] 36)) wx → ForksA wx wx.heap.size At F → Calls Tryd.prog 38 #[.agg #[.slice (some ⟨xb, xo, none⟩) c.weights.length c1, .slice A2 c.tests.length c2], .slice At F.length ct] wx fun e w' => e = .returned (.tuple #[.int .i64 K, .int .i64 0]) ∧ Below wx.heap.size wx w') := fun At ct wx hb hF => pCost_any _ _ c1 c2 c At ct F wx (HC.out wx hb).1 (HC.out wx hb).2 hF hgE hcE
  have H40 : Hid (∀ (At : Option Addr) (ct : Nat) wx, Below (w.heap.size + 1) (w.alloc (.cells #[.slice (some ⟨xb, xo, none⟩) c.weights.length c1, .slice A2 c.tests.length c2] 36)) wx → ForksA wx wx.heap.size At F → Calls Tryd.prog 40 #[.agg #[.slice (some ⟨xb, xo, none⟩) c.weights.length c1, .slice A2 c.tests.length c2], .slice At F.length ct] wx fun e w' => e = .returned (.int .i64 0) ∧ Below wx.heap.size wx w') := fun At ct wx hb hF => cguide_any _ _ c1 c2 c At ct F wx (HC.out wx hb).1 (HC.out wx hb).2 hF hgE
  have H43 : Hid (∀ (At : Option Addr) (ct k : Nat) wx, k < c.weights.length → Below (w.heap.size + 1) (w.alloc (.cells #[.slice (some ⟨xb, xo, none⟩) c.weights.length c1, .slice A2 c.tests.length c2] 36)) wx → ForksA wx wx.heap.size At F → Calls Tryd.prog 43 #[.agg #[.slice (some ⟨xb, xo, none⟩) c.weights.length c1, .slice A2 c.tests.length c2], .slice At F.length ct, .int .i64 k] wx fun e w' => ∃ Av cv As cs, e = .returned (.tuple #[.slice Av (walkT c F k).length cv, .slice As (fk F (leafT c F k)).set.length cs, .int .i64 0]) ∧ IntsA w' w'.heap.size Av (walkT c F k) ∧ IntsA w' w'.heap.size As (fk F (leafT c F k)).set ∧ Below wx.heap.size wx w') := fun At ct k wx hk hb hF => by
    have h9 := pWalk_any _ _ c1 c2 c At ct F (k : Int) wx (HC.out wx hb).1 (HC.out wx hb).2 hF
    unfold WalkRes at h9
    have e0 : walkE c F (k : Int) = 0 := by
      rw [walkE_yes hgE, if_pos (inB_iff'.2 (by omega))]
    have e1 : walkL c F (k : Int) = walkT c F k := by unfold walkL; rw [e0, if_pos rfl, Int.toNat_natCast]
    have e2 : walkM c F (k : Int) = (fk F (leafT c F k)).set := by unfold walkM; rw [e0, if_pos rfl, Int.toNat_natCast]
    rw [e0, e1, e2] at h9
    exact h9
  have H24 : Hid (∀ (A B : Option Addr) (a b : Nat) (l : List Int) (wx : World), IntsA wx wx.heap.size A l → IntsA wx wx.heap.size B l → Calls Tryd.prog 24 #[.slice A l.length a, .slice B l.length b] wx fun e w' => e = .returned (.bool true) ∧ Below wx.heap.size wx w') := fun A B a b l wx hA hB => same_ints A B a b l l wx hA hB (decide_eq_true rfl)
  have HBD : Hid (∀ k, k ≤ c.weights.length → 0 ≤ costTo c F k ∧ costTo c F k ≤ 60000000000) := fun k hk => by
    have := costTo_bd hok hTr hS k hk
    omega
  have HWY : Hid (∀ k, k < c.weights.length → WalkOk c F S k) := fun k hk => walk_all hok hTr hS hk
  have HFR : Hid (∀ x, x < c.weights.length → ownTo GG (x : Int) GG.length = true ∧ ∀ (i : Nat) (row : List Int), GG[i]? = some row → hasI row (x : Int) = true → row = (fk F (leafT c F x)).set) := fun x hx => by
    rw [← hGG]
    exact finds_rows hok hTr hS hx
  have HKK := Lib.hid hcost
  have hgl : GG.length ≤ 12 := by
    have := groupsS_len c (-1) c.weights.length
    rw [← hGG, List.length_map]
    omega
  clear hFF hGG hK hright hcost hgE hcE hTr hS hok hT h hbig hcb
  obtain ⟨p0, p1⟩ := HN.out _ (Below.refl _ _)
  go_enter Tryd.func14, Tryd.ntmps14
  go_wp2_with (first
    | (go_at_call 19; (with_reducible refine H19.out.mono ?_); rintro e w2 ⟨rfl, hb2⟩; have HB2 : Hid (Below (w.heap.size + 1) (w.alloc (.cells #[.slice (some ⟨xb, xo, none⟩) c.weights.length c1, .slice A2 c.tests.length c2] 36)) w2) := hb2.mono (by omega); obtain ⟨r0, r1⟩ := HN.out w2 HB2.out; clear hb2)
    | (go_at_call 20; (with_reducible refine (H20.out _ HB2.out).mono ?_); rintro e w3 ⟨At, ct, rfl, hF3, hb3⟩; have HF3 := Lib.hid hF3; have HB3 : Hid (Below (w.heap.size + 1) (w.alloc (.cells #[.slice (some ⟨xb, xo, none⟩) c.weights.length c1, .slice A2 c.tests.length c2] 36)) w3) := HB2.out.trans (hb3.mono (by have := HB2.out.size; omega)); obtain ⟨s0, s1⟩ := HN.out w3 HB3.out; clear hb3 hF3)
    | (go_at_call 38; (with_reducible refine (H38.out At ct _ HB3.out HF3.out).mono ?_); rintro e w4 ⟨rfl, hb4⟩; have HF4 := Lib.hid ((HF3.out.keep hb4).more hb4.size); have HB4 : Hid (Below (w.heap.size + 1) (w.alloc (.cells #[.slice (some ⟨xb, xo, none⟩) c.weights.length c1, .slice A2 c.tests.length c2] 36)) w4) := HB3.out.trans (hb4.mono (by have := HB3.out.size; omega)); obtain ⟨t0, t1⟩ := HN.out w4 HB4.out; clear hb4)
    | (go_at_call 25; (with_reducible refine (H25.out _ HB4.out).mono ?_); rintro e w5 ⟨gb, go, cg, rfl, hG5, hb5⟩; have HG5 := Lib.hid hG5; have HF5 := Lib.hid ((HF4.out.keep hb5).more hb5.size); have HB5 : Hid (Below (w.heap.size + 1) (w.alloc (.cells #[.slice (some ⟨xb, xo, none⟩) c.weights.length c1, .slice A2 c.tests.length c2] 36)) w5) := HB4.out.trans (hb5.mono (by have := HB4.out.size; omega)); obtain ⟨u0, u1⟩ := HN.out w5 HB5.out; clear hb5 hG5)
    | (go_at_call 40; (with_reducible refine (H40.out At ct _ HB5.out HF5.out).mono ?_); rintro e w6 ⟨rfl, hb6⟩; have HG6 := Lib.hid ((HG5.out.keep hb6).more hb6.size); have HF6 := Lib.hid ((HF5.out.keep hb6).more hb6.size); have HB6 : Hid (Below (w.heap.size + 1) (w.alloc (.cells #[.slice (some ⟨xb, xo, none⟩) c.weights.length c1, .slice A2 c.tests.length c2] 36)) w6) := HB5.out.trans (hb6.mono (by have := HB5.out.size; omega)); clear hb6))
  clear p0 p1 r0 r1 s0 s1 t0 t1 u0 u1 H19 HF3 HF4 HF5 HG5 HB2 HB3 HB4 HB5
  have hs6 := HB6.out.size
  rw [hsz] at hs6
  go_loopw [11, 10] (fun vi vs wr => ∃ (k : Nat) (p : Int), k ≤ c.weights.length ∧ vi = .int .i64 k ∧ vs = .int .i64 p ∧ Hid (p = costTo c F k) ∧ Hid (Below w6.heap.size w6 wr)) (fun vi _ _ => c.weights.length - (intOf vi).toNat)
  case atStart => exact ⟨0, 0, Nat.zero_le _, rfl, rfl, rfl, Below.refl _ _⟩
  case round =>
    obtain ⟨k, p, hk, rfl, rfl, HP, HBR⟩ := hrel
    rename World => wr
    have HB : Hid (Below (w.heap.size + 1) (w.alloc (.cells #[.slice (some ⟨xb, xo, none⟩) c.weights.length c1, .slice A2 c.tests.length c2] 36)) wr) := HB6.out.trans (HBR.out.mono hs6)
    obtain ⟨p0, p1⟩ := HN.out wr HB.out
    by_cases hlt : k < c.weights.length
    rotate_left
    · obtain rfl : k = c.weights.length := by omega
      have HPK : Hid (p = K) := by show _ = _; rw [HP.out, HKK.out]
      rw [HPK.out]
      go_wp2_with ((go_at_call 18; (with_reducible refine (HW.out _ HB.out).mono ?_); rintro e w8 ⟨rfl, hb8⟩))
      go_ret
      exact ⟨rfl, (hb1.trans (HB.out.mono (by omega))).trans (hb8.mono (by have := HB.out.size; omega))⟩
    · obtain ⟨_, _, hX, _, x0⟩ := (HC.out wr HB.out).1.ws.at_ hlt
      clear hX x0
      have hx := HOK.out.w k hlt
      have hwy := HWY.out k hlt
      have hbk := HBD.out k hk
      have hbk2 : ∀ q, 0 ≤ payI c (c.weights.getD k 0) ((walkT c F k).take q) ∧ payI c (c.weights.getD k 0) ((walkT c F k).take q) ≤ 5000000000 := fun q => payI_take HOK.out hx hwy.t hwy.n q
      have hfr := HFR.out k hlt
      have HOW := Lib.hid hfr.1
      have HRW := Lib.hid hfr.2
      have HCK := Lib.hid (H43.out At ct k wr hlt HB.out ((HF6.out.keep HBR.out).more HBR.out.size))
      have HST : Hid (costTo c F (k + 1) = p + payI c (c.weights.getD k 0) (walkT c F k)) := by show _ = _; rw [HP.out]; rfl
      have hln := hwy.n
      have HTT : Hid (∀ t ∈ walkT c F k, ∃ i : Nat, t = (i : Int) ∧ i < c.tests.length) := hwy.t
      rw [← HP.out] at hbk
      have HBK2 := Lib.hid hbk2
      obtain ⟨x, hxe⟩ : ∃ x, c.weights.getD k 0 = x := ⟨_, rfl⟩
      rw [hxe] at hx
      rw [hxe] at HST HBK2
      have HWX := Lib.hid hxe
      clear hwy hbk2 hxe hfr
      generalize walkT c F k = L at *
      generalize (fk F (leafT c F k)).set = M at *
      go_wp2_with (go_at_call 43; (with_reducible refine HCK.out.mono ?_); rintro e w7 ⟨Av, cv, As, cs, rfl, hI7, hM7, hb7⟩; have HI7 := Lib.hid hI7; have HM7 := Lib.hid hM7; have HB7R := Lib.hid (HBR.out.trans (hb7.mono HBR.out.size)); clear hI7 hM7 hb7)
      have HB7 : Hid (Below (w.heap.size + 1) (w.alloc (.cells #[.slice (some ⟨xb, xo, none⟩) c.weights.length c1, .slice A2 c.tests.length c2] 36)) w7) := HB6.out.trans (HB7R.out.mono hs6)
      have hs7 := HB7R.out.size
      clear p0 p1 HCK HBR HB
      go_loopw [16, 15] (fun vi vo wx => ∃ (i : Nat) (b : Bool), i ≤ GG.length ∧ vi = .int .i64 i ∧ vo = .bool b ∧ Hid (b = ownTo GG (k : Int) i) ∧ Hid (Below w7.heap.size w7 wx)) (fun vi _ _ => GG.length - (intOf vi).toNat)
      case atStart => exact ⟨0, false, Nat.zero_le _, rfl, rfl, rfl, Below.refl _ _⟩
      case round =>
        obtain ⟨i, b, hi, rfl, rfl, HO, HBX⟩ := hrel
        rename World => wx
        by_cases hil : i < GG.length
        · obtain ⟨row, gb', go', Ap, cp, hrow, hA, hbl, g0, _, hIr⟩ := (((HG6.out.keep HB7R.out).more hs7).keep HBX.out).at_ hil
          injection hA with hA
          injection hA with e5 e6
          subst e5
          subst e6
          have HRO := Lib.hid (ownTo_succ (x := (k : Int)) hrow)
          have HRM : Hid (hasI row (k : Int) = true → row = M) := HRW.out i row hrow
          have HIR := Lib.hid hIr
          have hrl := hIr.1
          unfold maxLen at hrl
          have HG0 : Hid (∀ wy, Below w7.heap.size wx wy → wy.cell? ⟨gb, go + i, none⟩ = some (.slice Ap row.length cp)) := fun wy hb => (bcell hb _ _ hbl).trans g0
          clear hrow hIr g0
          go_wp2_with fail
          go_loopw [17, 15] (fun vq vo wy => ∃ (q : Nat) (b' : Bool), q ≤ row.length ∧ vq = .int .i64 q ∧ vo = .bool b' ∧ Hid (b' = (b || hasI (row.take q) (k : Int))) ∧ Hid (Below w7.heap.size wx wy)) (fun vq _ _ => row.length - (intOf vq).toNat)
          case atStart => exact ⟨0, b, Nat.zero_le _, rfl, rfl, (by show b = (b || hasI [] (k : Int)); rw [show hasI [] (k : Int) = false from rfl, Bool.or_false]), Below.refl _ _⟩
          case round =>
            obtain ⟨q, b', hq, rfl, rfl, HO', HBY⟩ := hrel
            rename World => wy
            have g0 := HG0.out wy HBY.out
            by_cases hql : q < row.length
            · obtain ⟨rb, ro, hAp, hrb, r0⟩ := (HIR.out.keep HBY.out).at_ hql
              subst hAp
              obtain ⟨y, hy⟩ : ∃ y, row.getD q 0 = y := ⟨_, rfl⟩
              rw [hy] at r0
              have hst := hasI_take (x := (k : Int)) hql
              rw [hy] at hst
              by_cases hyk : y = (k : Int)
              · have HRE : Hid (row = M) := HRM.out (hasI_hit hql (by rw [hy]; exact hyk))
                have HST2 : Hid (true = (b || hasI (row.take (q + 1)) (k : Int))) := by show _ = _; rw [hst, decide_eq_true hyk, Bool.or_true, Bool.or_true]
                have HIM := Lib.hid ((HM7.out.keep (HBX.out.trans HBY.out)).more (by have := (HBX.out.trans HBY.out).size; omega))
                have HIR2 := Lib.hid ((HIR.out.keep HBY.out).more (by have := (HBX.out.trans HBY.out).size; omega))
                have hrM : row.length = M.length := by rw [HRE.out]
                have HCC : Hid (Calls Tryd.prog 24 #[.slice (some ⟨rb, ro, none⟩) row.length cp, .slice As M.length cs] wy fun e w' => e = .returned (.bool true) ∧ Below wy.heap.size wy w') := by
                  have h9 := H24.out (some ⟨rb, ro, none⟩) As cp cs row wy HIR2.out (by rw [HRE.out]; exact HIM.out)
                  rw [hrM] at h9 ⊢
                  exact h9
                rw [hyk] at r0
                have HSY : Hid (w7.heap.size ≤ wy.heap.size) := (HBX.out.trans HBY.out).size
                clear hy hyk hst hrM
                go_wp2_with (go_at_call 24; (with_reducible refine HCC.out.mono ?_); rintro e w9 ⟨rfl, hb9⟩; have HB9 := Lib.hid hb9; clear hb9)
                go_roundw
                case rel => exact ⟨q + 1, true, by omega, by go_num, rfl, HST2.out, HBY.out.trans (HB9.out.mono HSY.out)⟩
                case measure => simp [intOf]; omega
              · have HST2 : Hid (b' = (b || hasI (row.take (q + 1)) (k : Int))) := by show _ = _; rw [hst, decide_eq_false hyk, Bool.or_false]; exact HO'.out
                have e9 : (y == (k : Int)) = false := by simpa using hyk
                clear hy hst
                go_wp2_with fail
                go_roundw
                case rel => exact ⟨q + 1, b', by omega, by go_num, rfl, HST2.out, HBY.out⟩
                case measure => simp [intOf]; omega
            · obtain rfl : q = row.length := by omega
              go_wp2_with fail
              go_roundw
              case rel => exact ⟨i + 1, b', by omega, by go_num, rfl, by show _ = _; rw [HRO.out, HO'.out, HO.out, List.take_length], HBX.out.trans HBY.out⟩
              case measure => simp [intOf]; omega
        · obtain rfl : i = GG.length := by omega
          obtain rfl : b = true := HO.out.trans HOW.out
          have HB8 : Hid (Below (w.heap.size + 1) (w.alloc (.cells #[.slice (some ⟨xb, xo, none⟩) c.weights.length c1, .slice A2 c.tests.length c2] 36)) wx) := HB7.out.trans (HBX.out.mono (by omega))
          have HB8R : Hid (Below w6.heap.size w6 wx) := HB7R.out.trans (HBX.out.mono hs7)
          have HI8 := Lib.hid (HI7.out.keep HBX.out)
          have hs8 := HBX.out.size
          clear HI7 HM7 HG6 HOW HRW HO HBX HB7 HB7R
          go_wp2_with fail
          go_loopw [18, 10] (fun vi vs wy => ∃ (q : Nat) (m : Int), q ≤ L.length ∧ vi = .int .i64 q ∧ vs = .int .i64 m ∧ Hid (m = p + payI c x (L.take q)) ∧ Hid (Below wx.heap.size wx wy)) (fun vi _ _ => L.length - (intOf vi).toNat)
          case atStart => exact ⟨0, p, Nat.zero_le _, rfl, rfl, (Int.add_zero p).symm, Below.refl _ _⟩
          case round =>
            obtain ⟨q, m, hq, rfl, rfl, HM, HBY⟩ := hrel
            rename World => wy
            have HB9 : Hid (Below (w.heap.size + 1) (w.alloc (.cells #[.slice (some ⟨xb, xo, none⟩) c.weights.length c1, .slice A2 c.tests.length c2] 36)) wy) := HB8.out.trans (HBY.out.mono (by omega))
            by_cases hql : q < L.length
            rotate_left
            · obtain rfl : q = L.length := by omega
              go_wp2_with fail
              go_roundw
              case rel => exact ⟨k + 1, _, by omega, by go_num, rfl, by show _ = _; rw [HST.out, HM.out, List.take_length], HB8R.out.trans (HBY.out.mono (by omega))⟩
              case measure => simp [intOf]; omega
            · obtain ⟨p0, p1⟩ := HN.out wy HB9.out
              obtain ⟨lb, lo, hlA, hlb, l0⟩ := (HI8.out.keep (HBY.out.mono hs8)).at_ hql
              subst hlA
              obtain ⟨tt, htt, htl⟩ := HTT.out (L.getD q 0) (by rw [List.getD_eq_getElem?_getD, List.getElem?_eq_getElem hql]; exact List.getElem_mem hql)
              have hpay := payI_succ (c := c) (n := x) hql
              rw [htt] at l0 hpay
              obtain ⟨t, tb, tf, Ap, cp, htp, hA2, htb, m0, m1, _, _⟩ := (HC.out wy HB9.out).1.ts.at_ htl
              obtain ⟨xb', xo', hA1, hxb', x0⟩ := (HC.out wy HB9.out).1.ws.at_ hlt
              rw [HWX.out] at x0
              rw [testAt_of htp] at hpay
              have hy := (HOK.out.p tt t htp).1
              obtain ⟨y, hye⟩ : ∃ y, t.cost = y := ⟨_, rfl⟩
              rw [hye] at hpay m0 hy
              obtain ⟨z, hz⟩ : ∃ z, x * y = z := ⟨_, rfl⟩
              have hzb := mul_small hx hy
              have hmb := HBK2.out q
              have HMM := HM.out
              rw [hz] at hzb hpay
              have e1 : IntKind.i64.wrap (x * y) = z := by rw [hz]; exact IntWalk.i64_in _ (by omega)
              have e2 : IntKind.i64.wrap (m + z) = m + z := IntWalk.i64_in _ (by omega)
              have HNX : Hid (m + z = p + payI c x (L.take (q + 1))) := by show _ = _; rw [hpay, HMM, Int.add_assoc]
              rw [hA2] at p1
              injection hA1 with hA1
              injection hA1 with e5 e6
              subst e5
              subst e6
              have htl' : (tt : Int) < c.tests.length := by omega
              have e3 : decide ((tt : Int) < 0) = false := decide_eq_false (by omega)
              have e4 : decide ((c.tests.length : Int) ≤ tt) = false := decide_eq_false (by omega)
              clear hpay hz hye HMM htp hA2 htt hmb
              have d0 := p0
              have d1 := p1
              have d2 := l0
              have d3 := m0
              have d4 := x0
              go_wp2_with fail
              go_quiet (fail)
              go_wp2_with fail
              go_quiet (fail)
              go_wp2_with fail
              go_roundw
              case rel => exact ⟨q + 1, _, by omega, by go_num, rfl, HNX.out, by first | exact below_drewN HBY.out _ | exact below_drewN (below_drewN HBY.out 1) _ | exact HBY.out⟩
              case measure => simp [intOf]; omega

set_option maxRecDepth 100000 in
set_option maxHeartbeats 2000000 in
theorem lawFinds_any (A1 A2 : Option Addr) (c1 c2 : Nat) (c : MCase) (w : World) (h : CaseA w w.heap.size A1 A2 c) (hT : TabW w) :
    Calls Tryd.prog 14 #[.agg #[.slice A1 c.weights.length c1, .slice A2 c.tests.length c2]] w fun e w' => e = .returned (.bool true) ∧ Below w.heap.size w w' := by
  rcases hbig : bigB c
  · rcases hcb : caseB c
    · have hb1 : Below w.heap.size w (w.alloc (.cells #[.slice A1 c.weights.length c1, .slice A2 c.tests.length c2] 36)) := (Below.refl _ _).alloc (Nat.le_refl _) _
      have hsz : (w.alloc (.cells #[.slice A1 c.weights.length c1, .slice A2 c.tests.length c2] 36)).heap.size = w.heap.size + 1 := by simp
      have n0 := newcell w #[.slice A1 c.weights.length c1, .slice A2 c.tests.length c2] 36 0
      have n1 := newcell w #[.slice A1 c.weights.length c1, .slice A2 c.tests.length c2] 36 1
      simp only [List.getElem?_toArray, List.getElem?_cons_succ, List.getElem?_cons_zero] at n0 n1
      have HC : Hid (∀ wx, Below (w.heap.size + 1) (w.alloc (.cells #[.slice A1 c.weights.length c1, .slice A2 c.tests.length c2] 36)) wx → CaseA wx wx.heap.size A1 A2 c ∧ TabW wx) := fun wx hb => by
        have hbw := hb1.trans (hb.mono (by omega))
        exact ⟨(h.keep hbw).more hbw.size, hT.keep hbw⟩
      have HN : Hid (∀ wx, Below (w.heap.size + 1) (w.alloc (.cells #[.slice A1 c.weights.length c1, .slice A2 c.tests.length c2] 36)) wx → wx.cell? ⟨w.heap.size, 0, none⟩ = some (.slice A1 c.weights.length c1) ∧ wx.cell? ⟨w.heap.size, 1, none⟩ = some (.slice A2 c.tests.length c2)) := fun wx hb => ⟨(bcell hb _ _ (by omega)).trans n0, (bcell hb _ _ (by omega)).trans n1⟩
      have H19 : Hid (Calls Tryd.prog 19 #[.agg #[.slice A1 c.weights.length c1, .slice A2 c.tests.length c2]] (w.alloc (.cells #[.slice A1 c.weights.length c1, .slice A2 c.tests.length c2] 36)) fun e w' => e = .returned (.bool false) ∧ Below (w.alloc (.cells #[.slice A1 c.weights.length c1, .slice A2 c.tests.length c2] 36)).heap.size (w.alloc (.cells #[.slice A1 c.weights.length c1, .slice A2 c.tests.length c2] 36)) w') := big_any _ _ _ _ _ _ hbig
      have H20 : Hid (∀ wx, Below (w.heap.size + 1) (w.alloc (.cells #[.slice A1 c.weights.length c1, .slice A2 c.tests.length c2] 36)) wx → Calls Tryd.prog 20 #[.agg #[.slice A1 c.weights.length c1, .slice A2 c.tests.length c2]] wx fun e w' => e = .returned (.tuple #[.slice none 0 0, .int .i64 0, .int .i64 101]) ∧ Below wx.heap.size wx w') := fun wx hb => by
        refine (guide_any _ _ c1 c2 c wx (HC.out wx hb).1 (HC.out wx hb).2).mono ?_
        rintro e w' ⟨hb', ⟨_, he⟩ | ⟨h9, _⟩⟩
        · exact ⟨he, hb'⟩
        · rw [hcb] at h9; cases h9
      have HW : Hid (∀ wx, Below (w.heap.size + 1) (w.alloc (.cells #[.slice A1 c.weights.length c1, .slice A2 c.tests.length c2] 36)) wx → Calls Tryd.prog 18 #[] wx fun e w' => e = .returned (.bool true) ∧ Below wx.heap.size wx w') := fun wx hb => works_any wx (HC.out wx hb).2
      clear hcb hbig h hT
      go_enter Tryd.func14, Tryd.ntmps14
      go_wp2_with (first
        | (go_at_call 19; (with_reducible refine H19.out.mono ?_); rintro e w2 ⟨rfl, hb2⟩; have HB2 : Hid (Below (w.heap.size + 1) (w.alloc (.cells #[.slice A1 c.weights.length c1, .slice A2 c.tests.length c2] 36)) w2) := hb2.mono (by omega); obtain ⟨r0, r1⟩ := HN.out w2 HB2.out; clear hb2)
        | (go_at_call 20; (with_reducible refine (H20.out _ HB2.out).mono ?_); rintro e w3 ⟨rfl, hb3⟩; have HB3 : Hid (Below (w.heap.size + 1) (w.alloc (.cells #[.slice A1 c.weights.length c1, .slice A2 c.tests.length c2] 36)) w3) := HB2.out.trans (hb3.mono (by have := HB2.out.size; omega)); clear hb3)
        | (go_at_call 18; (with_reducible refine (HW.out _ HB3.out).mono ?_); rintro e w8 ⟨rfl, hb8⟩))
      go_ret
      exact ⟨rfl, (hb1.trans (HB3.out.mono (by omega))).trans (hb8.mono (by have := HB3.out.size; omega))⟩
    · obtain ⟨xb, xo, hA, _⟩ := h.ws.at_ (caseB_pos hcb)
      subst hA
      exact lawFinds_main xb xo A2 c1 c2 c w h hT hcb hbig
  · have hb1 : Below w.heap.size w (w.alloc (.cells #[.slice A1 c.weights.length c1, .slice A2 c.tests.length c2] 36)) := (Below.refl _ _).alloc (Nat.le_refl _) _
    have hsz : (w.alloc (.cells #[.slice A1 c.weights.length c1, .slice A2 c.tests.length c2] 36)).heap.size = w.heap.size + 1 := by simp
    have H19 : Hid (Calls Tryd.prog 19 #[.agg #[.slice A1 c.weights.length c1, .slice A2 c.tests.length c2]] (w.alloc (.cells #[.slice A1 c.weights.length c1, .slice A2 c.tests.length c2] 36)) fun e w' => e = .returned (.bool true) ∧ Below (w.alloc (.cells #[.slice A1 c.weights.length c1, .slice A2 c.tests.length c2] 36)).heap.size (w.alloc (.cells #[.slice A1 c.weights.length c1, .slice A2 c.tests.length c2] 36)) w') := big_any _ _ _ _ _ _ hbig
    have HW : Hid (∀ wx, Below (w.heap.size + 1) (w.alloc (.cells #[.slice A1 c.weights.length c1, .slice A2 c.tests.length c2] 36)) wx → Calls Tryd.prog 18 #[] wx fun e w' => e = .returned (.bool true) ∧ Below wx.heap.size wx w') := fun wx hb => works_any wx (hT.keep (hb1.trans (hb.mono (by omega))))
    clear h hT hbig
    go_enter Tryd.func14, Tryd.ntmps14
    go_wp2_with (first
      | (go_at_call 19; (with_reducible refine H19.out.mono ?_); rintro e w2 ⟨rfl, hb2⟩; have HB2 : Hid (Below (w.heap.size + 1) (w.alloc (.cells #[.slice A1 c.weights.length c1, .slice A2 c.tests.length c2] 36)) w2) := hb2.mono (by omega); clear hb2)
      | (go_at_call 18; (with_reducible refine (HW.out _ HB2.out).mono ?_); rintro e w8 ⟨rfl, hb8⟩))
    go_ret
    exact ⟨rfl, (hb1.trans (HB2.out.mono (by omega))).trans (hb8.mono (by have := HB2.out.size; omega))⟩
end Go.Proofs.YtonpemikodajdaaDoor
