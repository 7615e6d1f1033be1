/- The reference's alike; both ways find the same groups. -/
import Derived.Test.YtonpemikodajdaaDoorCs
import Derived.Deep.QuietTactic
import Derived.Test.YtonpemikodajdaaDoorGb
/- Walk: the reference's alike. -/
namespace Go.Proofs.YtonpemikodajdaaDoor
open Go.RowKit

/-- two suspects are alike for the first tests but one -/
def ralikeTo (c : MCase) (a b : Nat) (out : Int) (k : Nat) : Prop := ∀ (i : Nat) (t : MProbe), i < k → c.tests[i]? = some t → (i : Int) = out ∨ t.outs.getD a 0 = t.outs.getD b 0
def ralikeB (c : MCase) (a b : Nat) (out : Int) : Bool := (List.range c.tests.length).all fun i => decide ((i : Int) = out) || decide ((c.tests.getD i ⟨0, []⟩).outs.getD a 0 = (c.tests.getD i ⟨0, []⟩).outs.getD b 0)
theorem ralikeB_iff {c : MCase} {a b : Nat} {out : Int} : ralikeB c a b out = true ↔ ralikeTo c a b out c.tests.length := by
  unfold ralikeB ralikeTo
  rw [List.all_eq_true]
  constructor
  · intro h i t hi ht
    have h1 := h i (List.mem_range.2 hi)
    rw [show c.tests.getD i ⟨0, []⟩ = t by rw [List.getD_eq_getElem?_getD, ht]; rfl, Bool.or_eq_true, decide_eq_true_eq, decide_eq_true_eq] at h1
    exact h1
  · intro h i hi
    have hi := List.mem_range.1 hi
    have ht : c.tests[i]? = some c.tests[i] := List.getElem?_eq_getElem hi
    rw [show c.tests.getD i ⟨0, []⟩ = c.tests[i] by rw [List.getD_eq_getElem?_getD, ht]; rfl, Bool.or_eq_true, decide_eq_true_eq, decide_eq_true_eq]
    exact h i _ hi ht
theorem ralike_snoc {c : MCase} {a b : Nat} {out : Int} {k : Nat} {t : MProbe} (h : ralikeTo c a b out k) (ht : c.tests[k]? = some t) (hk : (k : Int) = out ∨ t.outs.getD a 0 = t.outs.getD b 0) : ralikeTo c a b out (k + 1) := fun i t' hi ht' => by
  rcases Nat.lt_or_ge i k with hlt | hge
  · exact h i t' hlt ht'
  · obtain rfl : i = k := by omega
    rw [ht] at ht'
    injection ht' with ht'
    subst ht'
    exact hk
set_option maxRecDepth 100000 in
set_option maxHeartbeats 4000000 in
theorem ralike_any (A1 A2 : Option Addr) (c1 c2 : Nat) (c : MCase) (a b : Nat) (out : Int) (w : World) (h : CaseA w w.heap.size A1 A2 c) (hc : caseB c = true) (ha : a < c.weights.length) (hb : b < c.weights.length) {r : Bool} (hr : ralikeB c a b out = r) :
    Calls Tryd.prog 105 #[.agg #[.slice A1 c.weights.length c1, .slice A2 c.tests.length c2], .int .i64 a, .int .i64 b, .int .i64 out] w fun e w' => e = .returned (.bool r) ∧ Below w.heap.size w w' := by
  have hok := caseOk hc
  have hm12 := hok.t
  have hn12 := hok.n2
  have hb1 : Below w.heap.size w (w.alloc (.cells #[.slice A1 c.weights.length c1, .slice A2 c.tests.length c2] 36)) := (Below.refl _ _).alloc (Nat.le_refl _) _
  have hsz : (w.alloc (.cells #[.slice A1 c.weights.length c1, .slice A2 c.tests.length c2] 36)).heap.size = w.heap.size + 1 := by simp
  have n1 := newcell w #[.slice A1 c.weights.length c1, .slice A2 c.tests.length c2] 36 1
  simp only [List.getElem?_toArray, List.getElem?_cons_succ, List.getElem?_cons_zero] at n1
  have N1 : Hid (∀ wx, Below (w.heap.size + 1) (w.alloc (.cells #[.slice A1 c.weights.length c1, .slice A2 c.tests.length c2] 36)) wx → wx.cell? ⟨w.heap.size, 1, none⟩ = some (.slice A2 c.tests.length c2)) := fun wx hb => (bcell hb _ _ (by omega)).trans n1
  have HR := Lib.hid hr
  have HOK := Lib.hid hok
  clear hr hok hc n1
  go_enter Tryd.func105, Tryd.ntmps105
  go_wp2_with fail
  go_loopw [9] (fun vi wr => ∃ k : Nat, k ≤ c.tests.length ∧ vi = .int .i64 k ∧ Hid (ralikeTo c a b out k) ∧ Hid (Below (w.heap.size + 1) (w.alloc (.cells #[.slice A1 c.weights.length c1, .slice A2 c.tests.length c2] 36)) wr)) (fun vi _ => c.tests.length - (intOf vi).toNat)
  case atStart => exact ⟨0, Nat.zero_le _, rfl, (fun i t hi => by omega), Below.refl _ _⟩
  case round =>
    obtain ⟨k, hk, rfl, HI, HB⟩ := hrel
    have p1 := N1.out wr HB.out
    have HBD : Hid (∀ n, Below (w.heap.size + 1) (w.alloc (.cells #[.slice A1 c.weights.length c1, .slice A2 c.tests.length c2] 36)) (wr.drewN n)) := fun n => ⟨HB.out.os, HB.out.tape, HB.out.output, HB.out.size, HB.out.block⟩
    have HBW := Lib.hid (hb1.trans (HB.out.mono (by omega)))
    by_cases hlt : k < c.tests.length
    · obtain ⟨t, tb, off, Ap, cp, ht, rfl, hblt, t0, t1, _, htp⟩ := (h.ts.below HBW.out (Nat.le_refl _)).at_ hlt
      have HT := Lib.hid ht
      have hp := HOK.out.p k t ht
      obtain ⟨ob, oo, rfl, _, g0⟩ := htp.at_ (show a < t.outs.length by rw [hp.2.1]; exact ha)
      obtain ⟨ob', oo', hA, _, g1⟩ := htp.at_ (show b < t.outs.length by rw [hp.2.1]; exact hb)
      injection hA with hA
      injection hA with e1 e2
      subst e1; subst e2
      have hal : a < t.outs.length := by rw [hp.2.1]; exact ha
      have hbl : b < t.outs.length := by rw [hp.2.1]; exact hb
      clear ht htp hp
      obtain ⟨x, hx⟩ : ∃ x, t.outs.getD a 0 = x := ⟨_, rfl⟩
      obtain ⟨y, hy⟩ : ∃ y, t.outs.getD b 0 = y := ⟨_, rfl⟩
      rw [hx] at g0
      rw [hy] at g1
      have HX := Lib.hid hx
      have HY := Lib.hid hy
      clear hx hy
      by_cases h1 : (k : Int) = out
      · have f1 : ((k : Int) != out) = false := by simpa using h1
        have H1 := Lib.hid h1
        clear h1
        go_wp2_with fail
        go_quiet (fail)
        go_wp2_with fail
        go_roundw
        case rel => exact ⟨k + 1, by omega, by go_num, ralike_snoc HI.out HT.out (.inl H1.out), HBD.out _⟩
        case measure => simp [intOf]; omega
      · have f1 : ((k : Int) != out) = true := by simpa using h1
        have H1 : Hid (¬ (k : Int) = out) := h1
        clear h1
        by_cases h2 : x = y
        · have f2 : (x != y) = false := by rw [h2]; simp
          have H2 := Lib.hid h2
          clear h2
          go_wp2_with fail
          go_quiet (fail)
          go_wp2_with fail
          go_roundw
          case rel => exact ⟨k + 1, by omega, by go_num, ralike_snoc HI.out HT.out (.inr (by rw [HX.out, HY.out]; exact H2.out)), HBD.out _⟩
          case measure => simp [intOf]; omega
        · have f2 : (x != y) = true := by simpa using h2
          have H2 : Hid (x ≠ y) := h2
          clear h2
          go_wp2_with fail
          go_quiet (fail)
          go_wp2_with fail
          go_ret
          refine ⟨ret_b ?_, hb1.trans ((HBD.out _).mono (by omega))⟩
          rw [← HR.out]
          rcases hal2 : ralikeB c a b out
          · rfl
          · rcases ralikeB_iff.1 hal2 k t hlt HT.out with e | e
            · exact absurd e H1.out
            · rw [HX.out, HY.out] at e
              exact absurd e H2.out
    · obtain rfl : k = c.tests.length := by omega
      go_wp2_with fail
      go_ret
      refine ⟨ret_b ?_, HBW.out⟩
      rw [← HR.out]
      exact (ralikeB_iff.2 HI.out).symm
end Go.Proofs.YtonpemikodajdaaDoor

/- Plain: both ways find the same groups, and the same tests useless. -/
namespace Go.Proofs.YtonpemikodajdaaDoor

theorem partsTo_pos {outs : List Int} {s p : Nat} (hp : 0 < partS outs s p) : ∀ {k : Nat}, p < k → 1 ≤ partsTo outs s k
  | 0, h => by omega
  | k + 1, h => by
    rw [partsTo]
    by_cases e : p = k
    · subst e; rw [if_pos hp]; omega
    · have := partsTo_pos hp (k := k) (by omega)
      omega
theorem partsTo_both {outs : List Int} {s p q : Nat} (hp : 0 < partS outs s p) (hq : 0 < partS outs s q) (hne : p < q) : ∀ {k : Nat}, q < k → 2 ≤ partsTo outs s k
  | 0, h => by omega
  | k + 1, h => by
    rw [partsTo]
    by_cases e : q = k
    · subst e
      rw [if_pos hq]
      have := partsTo_pos hp hne
      omega
    · have := partsTo_both hp hq hne (k := k) (by omega)
      omega
theorem partS_pos {outs : List Int} {s a v : Nat} (hs : s < 4096) (ha : s.testBit a = true) (hv : outs.getD a 0 = (v : Int)) : 0 < partS outs s v := by
  rcases Nat.eq_zero_or_pos (partS outs s v) with h | h
  · have h1 := partS_bit outs s v a hs
    rw [h, ha, decide_eq_true hv, Nat.zero_testBit] at h1
    cases h1
  · exact h
theorem parts_le_one {outs : List Int} {s : Nat} (hs : s < 4096) (h0 : ∀ a, s.testBit a = true → 0 ≤ outs.getD a 0 ∧ outs.getD a 0 ≤ 3) : partsTo outs s 4 ≤ 1 ↔ ∀ a b, s.testBit a = true → s.testBit b = true → outs.getD a 0 = outs.getD b 0 := by
  constructor
  · intro h a b ha hb
    have ra := h0 a ha
    have rb := h0 b hb
    obtain ⟨p, hp⟩ : ∃ p : Nat, outs.getD a 0 = (p : Int) := ⟨(outs.getD a 0).toNat, by omega⟩
    obtain ⟨q, hq⟩ : ∃ q : Nat, outs.getD b 0 = (q : Int) := ⟨(outs.getD b 0).toNat, by omega⟩
    have h1 := partS_pos hs ha hp
    have h2 := partS_pos hs hb hq
    rcases Nat.lt_trichotomy p q with h3 | h3 | h3
    · have := partsTo_both h1 h2 h3 (k := 4) (by omega)
      omega
    · rw [hp, hq, h3]
    · have := partsTo_both h2 h1 h3 (k := 4) (by omega)
      omega
  · intro h
    rcases Nat.lt_or_ge (partsTo outs s 4) 2 with h1 | h1
    · omega
    · exfalso
      obtain ⟨p, hp4, hp⟩ := partsTo_ex (outs := outs) (s := s) (k := 4) (by omega)
      obtain ⟨q, hq4, hqp, hq⟩ := partsTo_two (o := p) h1
      obtain ⟨i, hi⟩ := Nat.exists_testBit_of_ne_zero (show partS outs s p ≠ 0 by omega)
      obtain ⟨j, hj⟩ := Nat.exists_testBit_of_ne_zero (show partS outs s q ≠ 0 by omega)
      rw [partS_bit _ _ _ _ hs, Bool.and_eq_true, decide_eq_true_eq] at hi hj
      have := h i j hi.1 hj.1
      omega
theorem ral_refl (c : MCase) (a : Nat) (out : Int) : ralikeB c a a out = true := ralikeB_iff.2 fun _ _ _ _ => .inr rfl
theorem ral_symm {c : MCase} {a b : Nat} {out : Int} (h : ralikeB c a b out = true) : ralikeB c b a out = true := ralikeB_iff.2 fun i t hi ht => (ralikeB_iff.1 h i t hi ht).imp id Eq.symm
theorem ral_trans {c : MCase} {a b d : Nat} {out : Int} (h : ralikeB c a b out = true) (h2 : ralikeB c b d out = true) : ralikeB c a d out = true := ralikeB_iff.2 fun i t hi ht => by
  rcases ralikeB_iff.1 h i t hi ht with e | e
  · exact .inl e
  · rcases ralikeB_iff.1 h2 i t hi ht with e2 | e2
    · exact .inl e2
    · exact .inr (e.trans e2)
theorem ral_weak {c : MCase} {a b : Nat} {out : Int} (h : ralikeB c a b (-1) = true) : ralikeB c a b out = true := ralikeB_iff.2 fun i t hi ht => by
  rcases ralikeB_iff.1 h i t hi ht with e | e
  · omega
  · exact .inr e
theorem bit_lt {m n a : Nat} (hm : m < 2 ^ n) (ha : m.testBit a = true) : a < n := by
  rcases Nat.lt_or_ge a n with h | h
  · exact h
  · have := Nat.testBit_lt_two_pow (Nat.lt_of_lt_of_le hm (Nat.pow_le_pow_right (by omega) h))
    rw [this] at ha
    cases ha
theorem pow12 {n m : Nat} (hn : n ≤ 12) (hm : m < 2 ^ n) : m < 4096 := Nat.lt_of_lt_of_le hm (Nat.pow_le_pow_right (n := 2) (by omega) hn)
theorem alikeB_set {c : MCase} (hc : CaseOk c) {s : Nat} {out : Int} (hs : s < 2 ^ c.weights.length) : alikeB c s out = true ↔ ∀ a b, s.testBit a = true → s.testBit b = true → ralikeB c a b out = true := by
  have hs2 := pow12 hc.n2 hs
  have hr : ∀ (i : Nat) (t : MProbe), c.tests[i]? = some t → ∀ a, s.testBit a = true → 0 ≤ t.outs.getD a 0 ∧ t.outs.getD a 0 ≤ 3 := fun i t ht a ha => by
    obtain ⟨_, h1, h2⟩ := hc.p i t ht
    exact h2 a (by rw [h1]; exact bit_lt hs ha)
  rw [alikeB_iff]
  constructor
  · intro h a b ha hb
    refine ralikeB_iff.2 fun i t hi ht => ?_
    rcases h i t hi ht with e | e
    · exact .inl e
    · exact .inr ((parts_le_one hs2 (hr i t ht)).1 e a b ha hb)
  · intro h i t hi ht
    by_cases e : (i : Int) = out
    · exact .inl e
    · refine .inr ((parts_le_one hs2 (hr i t ht)).2 fun a b ha hb => ?_)
      exact (ralikeB_iff.1 (h a b ha hb) i t hi ht).resolve_left e
theorem bitsOf_or {m i : Nat} (hm : m < 2 ^ i) (hi : i < 12) : bitsOf (m ||| 2 ^ i) = bitsOf m ++ [i] := by
  unfold bitsOf
  have e : List.range 12 = List.range i ++ i :: (List.range (11 - i)).map (fun j => i + 1 + j) := by
    have : (12 : Nat) = (i + 1) + (11 - i) := by omega
    conv => lhs; rw [this]
    rw [List.range_add, List.range_succ, List.append_assoc]
    rfl
  have h1 : (List.range i).filter (m ||| 2 ^ i).testBit = (List.range i).filter m.testBit := List.filter_congr fun j hj => by
    have := List.mem_range.1 hj
    rw [Nat.testBit_or, Nat.testBit_two_pow, decide_eq_false (by omega), Bool.or_false]
  have h2 : ∀ x : Nat, x < 2 ^ (i + 1) → ((List.range (11 - i)).map (fun j => i + 1 + j)).filter x.testBit = [] := fun x hx => by
    rw [List.filter_eq_nil_iff]
    intro j hj
    obtain ⟨j', _, rfl⟩ := List.mem_map.1 hj
    rw [Nat.testBit_lt_two_pow (Nat.lt_of_lt_of_le hx (Nat.pow_le_pow_right (by omega) (by omega)))]
    decide
  have hp : 2 ^ i < 2 ^ (i + 1) := Nat.pow_lt_pow_right (by omega) (by omega)
  rw [e, List.filter_append, List.filter_append, List.filter_cons, List.filter_cons, h1, h2 _ (Nat.or_lt_two_pow (by omega) hp), h2 m (by omega), Nat.testBit_or, Nat.testBit_two_pow_self, Bool.or_true, if_pos rfl, Nat.testBit_lt_two_pow hm]
  simp
theorem bitsOf_pow {i : Nat} (hi : i < 12) : bitsOf (2 ^ i) = [i] := by
  have h := bitsOf_or (m := 0) (Nat.pow_pos (by omega) : 0 < 2 ^ i) hi
  rw [Nat.zero_or, bitsOf_zero] at h
  exact h
/-- the first suspect of a set -/
def fstB (m : Nat) : Nat := (bitsOf m).headD 0
theorem fstB_mem {m : Nat} (h0 : m ≠ 0) (hm : m < 4096) : m.testBit (fstB m) = true := by
  unfold fstB
  rcases hb : bitsOf m with _ | ⟨x, r⟩
  · exfalso
    obtain ⟨j, hj⟩ := Nat.exists_testBit_of_ne_zero h0
    have : j ∈ bitsOf m := mem_bitsOf.2 ⟨bit_lt (n := 12) hm hj, hj⟩
    rw [hb] at this
    cases this
  · have : x ∈ bitsOf m := by rw [hb]; exact List.mem_cons_self ..
    exact (mem_bitsOf.1 this).2
theorem getD_setN {L : List Nat} {k j x : Nat} (hk : k < L.length) : (L.set k x).getD j 0 = if j = k then x else L.getD j 0 := by
  rw [List.getD_eq_getElem?_getD, List.getElem?_set]
  by_cases h : k = j
  · subst h
    rw [if_pos rfl, if_pos hk, if_pos rfl]
    rfl
  · rw [if_neg h, if_neg (fun e => h e.symm), List.getD_eq_getElem?_getD]
theorem getD_appN {L : List Nat} {j x : Nat} : (L ++ [x]).getD j 0 = if j = L.length then x else L.getD j 0 := by
  by_cases h : j = L.length
  · subst h
    rw [if_pos rfl, List.getD_eq_getElem?_getD, List.getElem?_append_right (Nat.le_refl _)]
    simp
  · rw [if_neg h]
    rcases Nat.lt_or_ge j L.length with h1 | h1
    · rw [List.getD_eq_getElem?_getD, List.getElem?_append_left h1, List.getD_eq_getElem?_getD]
    · rw [List.getD_eq_getElem?_getD, List.getElem?_eq_none (by simp; omega), List.getD_eq_getElem?_getD, List.getElem?_eq_none h1]
structure GrpOk (c : MCase) (out : Int) (n : Nat) (L : List Nat) : Prop where
  lt : ∀ k, k < L.length → L.getD k 0 < 2 ^ n
  ne : ∀ k, k < L.length → L.getD k 0 ≠ 0
  al : ∀ k, k < L.length → ∀ a b, (L.getD k 0).testBit a = true → (L.getD k 0).testBit b = true → ralikeB c a b out = true
  un : ∀ j k, j < L.length → k < L.length → j ≠ k → ∀ a b, (L.getD j 0).testBit a = true → (L.getD k 0).testBit b = true → ralikeB c a b out = false
  cov : ∀ a, a < n → ∃ k, k < L.length ∧ (L.getD k 0).testBit a = true
theorem or_bit {m i a : Nat} : (m ||| 2 ^ i).testBit a = true ↔ m.testBit a = true ∨ a = i := by
  rw [Nat.testBit_or, Nat.testBit_two_pow, Bool.or_eq_true, decide_eq_true_eq]
  exact ⟨fun h => h.imp id Eq.symm, fun h => h.imp id Eq.symm⟩
theorem pow_bit {i a : Nat} : (2 ^ i).testBit a = true ↔ a = i := by
  rw [Nat.testBit_two_pow, decide_eq_true_eq]
  exact ⟨Eq.symm, Eq.symm⟩
theorem false_of {b : Bool} (h : b = true → False) : b = false := by
  cases b
  · rfl
  · exact (h rfl).elim
/-- a group takes a suspect exactly if its first one is alike -/
theorem hit_eq {c : MCase} (hc : CaseOk c) {out : Int} {i : Nat} (hi : i < c.weights.length) {L : List Nat} (h : GrpOk c out i L) {k : Nat} (hk : k < L.length) : alikeB c (L.getD k 0 ||| 2 ^ i) out = ralikeB c (fstB (L.getD k 0)) i out := by
  have hlt := h.lt k hk
  have hi12 : i < 12 := Nat.lt_of_lt_of_le hi hc.n2
  have hmem := fstB_mem (h.ne k hk) (pow12 (Nat.le_of_lt hi12) hlt)
  have hs : L.getD k 0 ||| 2 ^ i < 2 ^ c.weights.length := by
    have h1 : 2 ^ i < 2 ^ c.weights.length := Nat.pow_lt_pow_right (by omega) hi
    exact Nat.or_lt_two_pow (by omega) h1
  rw [Bool.eq_iff_iff, alikeB_set hc hs]
  constructor
  · exact fun h1 => h1 _ _ (or_bit.2 (.inl hmem)) (or_bit.2 (.inr rfl))
  · intro h1 a b ha hb
    have key : ∀ a, (L.getD k 0 ||| 2 ^ i).testBit a = true → ralikeB c a i out = true := fun a ha => by
      rcases or_bit.1 ha with e | e
      · exact ral_trans (h.al k hk _ _ e hmem) h1
      · rw [e]; exact ral_refl _ _ _
    exact ral_trans (key a ha) (ral_symm (key b hb))
theorem hit_one {c : MCase} (hc : CaseOk c) {out : Int} {i : Nat} (hi : i < c.weights.length) {L : List Nat} (h : GrpOk c out i L) {j k : Nat} (hj : j < L.length) (hk : k < L.length) (h1 : ralikeB c (fstB (L.getD j 0)) i out = true) (h2 : ralikeB c (fstB (L.getD k 0)) i out = true) : j = k := by
  have hi12 : i < 12 := Nat.lt_of_lt_of_le hi hc.n2
  by_cases e : j = k
  · exact e
  · have h3 := h.un j k hj hk e _ _ (fstB_mem (h.ne j hj) (pow12 (Nat.le_of_lt hi12) (h.lt j hj))) (fstB_mem (h.ne k hk) (pow12 (Nat.le_of_lt hi12) (h.lt k hk)))
    rw [ral_trans h1 (ral_symm h2)] at h3
    cases h3
theorem addS_cases {c : MCase} (hc : CaseOk c) {out : Int} {i : Nat} (hi : i < c.weights.length) {L : List Nat} (h : GrpOk c out i L) :
    (∃ k, k < L.length ∧ ralikeB c (fstB (L.getD k 0)) i out = true ∧ addS c out L i = L.set k (L.getD k 0 ||| 2 ^ i)) ∨ ((∀ k, k < L.length → ralikeB c (fstB (L.getD k 0)) i out = false) ∧ addS c out L i = L ++ [2 ^ i]) := by
  by_cases hx : ∃ k, k < L.length ∧ ralikeB c (fstB (L.getD k 0)) i out = true
  · obtain ⟨k, hk, h1⟩ := hx
    refine .inl ⟨k, hk, h1, addS_hit hk ((hit_eq hc hi h hk).trans h1) fun j hj => ?_⟩
    rw [hit_eq hc hi h (show j < L.length by omega)]
    exact false_of fun h2 => by have := hit_one hc hi h (show j < L.length by omega) hk h2 h1; omega
  · have hn : ∀ k, k < L.length → ralikeB c (fstB (L.getD k 0)) i out = false := fun k hk => false_of fun h1 => hx ⟨k, hk, h1⟩
    exact .inr ⟨hn, addS_miss fun j hj => (hit_eq hc hi h hj).trans (hn j hj)⟩
theorem addS_ok {c : MCase} (hc : CaseOk c) {out : Int} {i : Nat} (hi : i < c.weights.length) {L : List Nat} (h : GrpOk c out i L) : GrpOk c out (i + 1) (addS c out L i) := by
  have hi12 : i < 12 := Nat.lt_of_lt_of_le hi hc.n2
  have hp : 2 ^ i < 2 ^ (i + 1) := Nat.pow_lt_pow_right (by omega) (by omega)
  have hf : ∀ k, k < L.length → (L.getD k 0).testBit (fstB (L.getD k 0)) = true := fun k hk => fstB_mem (h.ne k hk) (pow12 (Nat.le_of_lt hi12) (h.lt k hk))
  rcases addS_cases hc hi h with ⟨k, hk, h1, e⟩ | ⟨h1, e⟩
  · rw [e]
    have hin : ∀ a, (L.getD k 0 ||| 2 ^ i).testBit a = true → ralikeB c a i out = true := fun a ha => by
      rcases or_bit.1 ha with e | e
      · exact ral_trans (h.al k hk _ _ e (hf k hk)) h1
      · rw [e]; exact ral_refl _ _ _
    have hun : ∀ j, j < L.length → j ≠ k → ∀ a b, (L.getD j 0).testBit a = true → (L.getD k 0 ||| 2 ^ i).testBit b = true → ralikeB c a b out = false := fun j hj hjk a b ha hb => false_of fun h2 => by
      have h3 := h.un j k hj hk hjk a _ ha (hf k hk)
      rw [ral_trans (ral_trans h2 (hin b hb)) (ral_symm h1)] at h3
      cases h3
    refine ⟨fun j hj => ?_, fun j hj => ?_, fun j hj => ?_, fun j l hj hl hjl => ?_, fun a ha => ?_⟩
    · rw [List.length_set] at hj
      rw [getD_setN hk]
      split
      · have := h.lt k hk
        exact Nat.or_lt_two_pow (by omega) hp
      · have := h.lt j hj
        omega
    · rw [List.length_set] at hj
      rw [getD_setN hk]
      split
      · intro e0
        have : (L.getD k 0 ||| 2 ^ i).testBit i = true := or_bit.2 (.inr rfl)
        rw [e0, Nat.zero_testBit] at this
        cases this
      · exact h.ne j hj
    · rw [List.length_set] at hj
      rw [getD_setN hk]
      split
      · exact fun a b ha hb => ral_trans (hin a ha) (ral_symm (hin b hb))
      · exact h.al j hj
    · rw [List.length_set] at hj hl
      rw [getD_setN hk, getD_setN hk]
      by_cases e1 : j = k
      · rw [if_pos e1, if_neg (fun e2 => hjl (e1.trans e2.symm))]
        exact fun a b ha hb => false_of fun h2 => by
          have := hun l hl (fun e2 => hjl (e1.trans e2.symm)) b a hb ha
          rw [ral_symm h2] at this
          cases this
      · rw [if_neg e1]
        by_cases e2 : l = k
        · rw [if_pos e2]
          exact hun j hj e1
        · rw [if_neg e2]
          exact h.un j l hj hl hjl
    · by_cases e1 : a = i
      · exact ⟨k, by rw [List.length_set]; exact hk, by rw [getD_setN hk, if_pos rfl]; exact or_bit.2 (.inr e1)⟩
      · obtain ⟨j, hj, hb⟩ := h.cov a (by omega)
        refine ⟨j, by rw [List.length_set]; exact hj, ?_⟩
        rw [getD_setN hk]
        split
        · rename_i e2
          rw [← e2]
          exact or_bit.2 (.inl hb)
        · exact hb
  · rw [e]
    have hun : ∀ j, j < L.length → ∀ a, (L.getD j 0).testBit a = true → ralikeB c a i out = false := fun j hj a ha => false_of fun h2 => by
      have h3 := h1 j hj
      rw [ral_trans (h.al j hj _ _ (hf j hj) ha) h2] at h3
      cases h3
    have hlen : ∀ j, j < (L ++ [2 ^ i]).length → j ≠ L.length → j < L.length := fun j hj hne => by
      rw [List.length_append, List.length_singleton] at hj; omega
    refine ⟨fun j hj => ?_, fun j hj => ?_, fun j hj => ?_, fun j l hj hl hjl => ?_, fun a ha => ?_⟩
    · rw [getD_appN]
      split
      · exact hp
      · rename_i hne
        have := h.lt j (hlen j hj hne)
        omega
    · rw [getD_appN]
      split
      · have : 0 < 2 ^ i := Nat.pow_pos (by omega)
        omega
      · rename_i hne
        exact h.ne j (hlen j hj hne)
    · rw [getD_appN]
      split
      · exact fun a b ha hb => by rw [pow_bit.1 ha, pow_bit.1 hb]; exact ral_refl _ _ _
      · rename_i hne
        exact h.al j (hlen j hj hne)
    · rw [getD_appN, getD_appN]
      by_cases e1 : j = L.length
      · rw [if_pos e1, if_neg (fun e2 => hjl (e1.trans e2.symm))]
        exact fun a b ha hb => false_of fun h2 => by
          have h3 := hun l (hlen l hl fun e2 => hjl (e1.trans e2.symm)) b hb
          rw [pow_bit.1 ha] at h2
          rw [ral_symm h2] at h3
          cases h3
      · rw [if_neg e1]
        by_cases e2 : l = L.length
        · rw [if_pos e2]
          exact fun a b ha hb => by rw [pow_bit.1 hb]; exact hun j (hlen j hj e1) a ha
        · rw [if_neg e2]
          exact h.un j l (hlen j hj e1) (hlen l hl e2) hjl
    · by_cases e1 : a = i
      · exact ⟨L.length, by simp, by rw [getD_appN, if_pos rfl]; exact pow_bit.2 e1⟩
      · obtain ⟨j, hj, hb⟩ := h.cov a (by omega)
        refine ⟨j, by simp; omega, ?_⟩
        rw [getD_appN, if_neg (by omega)]
        exact hb
theorem groups_ok {c : MCase} (hc : CaseOk c) (out : Int) : ∀ {n : Nat}, n ≤ c.weights.length → GrpOk c out n (groupsS c out n)
  | 0, _ => ⟨fun k hk => by simp [groupsS] at hk, fun k hk => by simp [groupsS] at hk, fun k hk => by simp [groupsS] at hk, fun j k hj => by simp [groupsS] at hj, fun a ha => by omega⟩
  | n + 1, h => addS_ok hc (by omega) (groups_ok hc out (n := n) (by omega))
/-- the reference's groups -/
def raddS (c : MCase) (out : Int) (LL : List (List Nat)) (s : Nat) : List (List Nat) :=
  LL.map (fun l => if ralikeB c (l.headD 0) s out = true then l ++ [s] else l) ++ if LL.any (fun l => ralikeB c (l.headD 0) s out) = true then [] else [[s]]
def rgroupsS (c : MCase) (out : Int) : Nat → List (List Nat)
  | 0 => []
  | n + 1 => raddS c out (rgroupsS c out n) n
theorem radd_eq {c : MCase} (hc : CaseOk c) {out : Int} {i : Nat} (hi : i < c.weights.length) {L : List Nat} (h : GrpOk c out i L) : raddS c out (L.map bitsOf) i = (addS c out L i).map bitsOf := by
  have hi12 : i < 12 := Nat.lt_of_lt_of_le hi hc.n2
  unfold raddS
  rw [List.any_map, List.map_map]
  rcases addS_cases hc hi h with ⟨k, hk, h1, e⟩ | ⟨h1, e⟩
  · have hany : (L.any ((fun l : List Nat => ralikeB c (l.headD 0) i out) ∘ bitsOf)) = true := by
      rw [List.any_eq_true]
      refine ⟨L[k], List.getElem_mem hk, ?_⟩
      rw [List.getD_eq_getElem?_getD, List.getElem?_eq_getElem hk] at h1
      exact h1
    rw [if_pos hany, List.append_nil, e, List.map_set]
    apply List.ext_getElem?
    intro j
    rw [List.getElem?_map, List.getElem?_set, List.length_map]
    rcases Nat.lt_or_ge j L.length with hj | hj
    · rw [List.getElem?_eq_getElem hj]
      have ej : L.getD j 0 = L[j] := by rw [List.getD_eq_getElem?_getD, List.getElem?_eq_getElem hj]; rfl
      by_cases e2 : k = j
      · subst e2
        rw [if_pos rfl, if_pos hk, bitsOf_or (h.lt k hk) hi12, ej]
        rw [ej] at h1
        show some (if ralikeB c (fstB L[k]) i out = true then _ else _) = _
        rw [if_pos h1]
      · rw [if_neg e2, List.getElem?_map, List.getElem?_eq_getElem hj]
        show some (if ralikeB c (fstB L[j]) i out = true then _ else _) = _
        rw [if_neg (fun h2 => e2 (hit_one hc hi h hk hj h1 (by rw [ej]; exact h2)))]
        rfl
    · rw [List.getElem?_eq_none hj, if_neg (by omega), List.getElem?_map, List.getElem?_eq_none hj]
      rfl
  · have hn : ∀ m ∈ L, ralikeB c (fstB m) i out = false := fun m hm => by
      obtain ⟨j, hj, rfl⟩ := List.mem_iff_getElem.1 hm
      have h2 := h1 j hj
      rw [List.getD_eq_getElem?_getD, List.getElem?_eq_getElem hj] at h2
      exact h2
    have hany : (L.any ((fun l : List Nat => ralikeB c (l.headD 0) i out) ∘ bitsOf)) = false := by
      rw [List.any_eq_false]
      intro m hm
      have := hn m hm
      exact fun h2 => by
        have h2 : ralikeB c (fstB m) i out = true := h2
        rw [this] at h2
        cases h2
    rw [hany, e, List.map_append, List.map_singleton, bitsOf_pow hi12]
    congr 1
    apply List.map_congr_left
    intro m hm
    show (if ralikeB c (fstB m) i out = true then _ else _) = _
    rw [hn m hm]
    rfl
theorem rgroups_eq {c : MCase} (hc : CaseOk c) (out : Int) : ∀ {n : Nat}, n ≤ c.weights.length → rgroupsS c out n = (groupsS c out n).map bitsOf
  | 0, _ => rfl
  | n + 1, h => by
    rw [rgroupsS, rgroups_eq hc out (n := n) (by omega), radd_eq hc (by omega) (groups_ok hc out (by omega))]
    rfl
/-- without a test groups only become one -/
theorem groups_fewer {c : MCase} (hc : CaseOk c) (out : Int) : ∀ {n : Nat}, n ≤ c.weights.length → (groupsS c out n).length ≤ (groupsS c (-1) n).length ∧ ((groupsS c out n).length = (groupsS c (-1) n).length → groupsS c (-1) n = groupsS c out n)
  | 0, _ => ⟨Nat.le_refl 0, fun _ => rfl⟩
  | n + 1, h => by
    obtain ⟨ih1, ih2⟩ := groups_fewer hc out (n := n) (by omega)
    have hn12 : n < 12 := Nat.lt_of_lt_of_le h hc.n2
    have hL := groups_ok hc (-1) (n := n) (by omega)
    have hM := groups_ok hc out (n := n) (by omega)
    have eL : groupsS c (-1) (n + 1) = addS c (-1) (groupsS c (-1) n) n := rfl
    have eM : groupsS c out (n + 1) = addS c out (groupsS c out n) n := rfl
    rw [eL, eM]
    generalize groupsS c (-1) n = L at *
    generalize groupsS c out n = M at *
    rcases addS_cases hc h hL with ⟨k, hk, h1, e1⟩ | ⟨h1, e1⟩
    · rcases addS_cases hc h hM with ⟨j, hj, h2, e2⟩ | ⟨h2, e2⟩
      · rw [e1, e2, List.length_set, List.length_set]
        refine ⟨ih1, fun he => ?_⟩
        obtain rfl := ih2 he
        rw [hit_one hc h hM hk hj (ral_weak h1) h2]
      · exfalso
        have hmem := fstB_mem (hL.ne k hk) (pow12 (Nat.le_of_lt hn12) (hL.lt k hk))
        obtain ⟨j, hj, hb⟩ := hM.cov _ (bit_lt (hL.lt k hk) hmem)
        have h3 := h2 j hj
        rw [ral_trans (hM.al j hj _ _ (fstB_mem (hM.ne j hj) (pow12 (Nat.le_of_lt hn12) (hM.lt j hj))) hb) (ral_weak h1)] at h3
        cases h3
    · rcases addS_cases hc h hM with ⟨j, hj, h2, e2⟩ | ⟨h2, e2⟩
      · rw [e1, e2, List.length_set, List.length_append, List.length_singleton]
        exact ⟨by omega, fun he => by omega⟩
      · rw [e1, e2, List.length_append, List.length_append, List.length_singleton]
        exact ⟨by omega, fun he => by rw [ih2 (by omega)]⟩
def ruselessTo (c : MCase) : Nat → List Int
  | 0 => []
  | k + 1 => if (rgroupsS c (k : Int) c.weights.length).length = (rgroupsS c (-1) c.weights.length).length then ruselessTo c k ++ [(k : Int)] else ruselessTo c k
theorem useless_eq {c : MCase} (hc : CaseOk c) : ∀ k, ruselessTo c k = uselessTo c k
  | 0 => rfl
  | k + 1 => by
    have e1 : ruselessTo c (k + 1) = if (rgroupsS c (k : Int) c.weights.length).length = (rgroupsS c (-1) c.weights.length).length then ruselessTo c k ++ [(k : Int)] else ruselessTo c k := rfl
    have e2 : uselessTo c (k + 1) = if groupsS c (-1) c.weights.length = groupsS c (k : Int) c.weights.length then uselessTo c k ++ [(k : Int)] else uselessTo c k := rfl
    rw [e1, e2, useless_eq hc k, rgroups_eq hc _ (Nat.le_refl _), rgroups_eq hc _ (Nat.le_refl _), List.length_map, List.length_map]
    by_cases h : groupsS c (-1) c.weights.length = groupsS c (k : Int) c.weights.length
    · rw [if_pos h, if_pos (by rw [h])]
    · rw [if_neg h, if_neg (fun he => h ((groups_fewer hc _ (Nat.le_refl _)).2 he))]
end Go.Proofs.YtonpemikodajdaaDoor
