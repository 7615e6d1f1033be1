/- Guides: bounds, the map of known choices, plain forks, forks in memory. -/
import Derived.Test.YtonpemikodajdaaDoorCs
import Derived.Maps.OwnSet
import Derived.Maps.AppendAt
import Derived.Deep.AppendLies
/- Plain: bounds for the best choice. -/
namespace Go.Proofs.YtonpemikodajdaaDoor
open Go.RowKit

theorem bitsOf_part (outs : List Int) (s o : Nat) (hs : s < 4096) : bitsOf (partS outs s o) = (bitsOf s).filter fun j => decide (outs.getD j 0 = o) := by
  unfold bitsOf
  rw [List.filter_filter]
  refine List.filter_congr fun j _ => ?_
  rw [partS_bit _ _ _ _ hs, Bool.and_comm]
theorem bitsOf_pos {s : Nat} (h0 : 0 < s) (hs : s < 4096) : 0 < (bitsOf s).length := by
  obtain ⟨j, hj⟩ := Nat.exists_testBit_of_ne_zero (show s ≠ 0 by omega)
  have h12 : j < 12 := by
    rcases Nat.lt_or_ge j 12 with h | h
    · exact h
    · have e : 4096 ≤ 2 ^ j := by
        have : 2 ^ 12 ≤ 2 ^ j := Nat.pow_le_pow_right (by omega) h
        exact this
      rw [Nat.testBit_lt_two_pow (by omega)] at hj; cases hj
  exact List.length_pos_of_mem (mem_bitsOf.2 ⟨h12, hj⟩)
theorem filter_lt {α : Type} {l : List α} {p : α → Bool} {x : α} (hx : x ∈ l) (hp : p x = false) : (l.filter p).length < l.length := by
  rcases Nat.lt_or_eq_of_le (List.length_filter_le p l) with h | h
  · exact h
  · have := List.length_filter_eq_length_iff.1 h x hx
    rw [hp] at this; cases this
theorem part_fewer {outs : List Int} {s o p : Nat} (hs : s < 4096) (hop : o ≠ p) (hp : 0 < partS outs s p) : (bitsOf (partS outs s o)).length < (bitsOf s).length := by
  obtain ⟨j, hj⟩ := List.exists_mem_of_length_pos (bitsOf_pos hp (partS_lt outs s p))
  rw [bitsOf_part _ _ _ hs, List.mem_filter] at hj
  rw [bitsOf_part _ _ _ hs]
  exact filter_lt hj.1 (decide_eq_false fun e => by have := of_decide_eq_true hj.2; omega)
def capC (m : Nat) : Int := 12000000 * 5 ^ m
theorem capC_succ (m : Nat) : capC (m + 1) = 5 * capC m := by unfold capC; rw [Int.pow_succ]; omega
theorem capC_pos (m : Nat) : 12000000 ≤ capC m := by
  induction m with
  | zero => decide
  | succ m ih => rw [capC_succ]; omega
theorem capC_mono {a b : Nat} (h : a ≤ b) : capC a ≤ capC b := by
  induction b with
  | zero => have : a = 0 := by omega
            subst this; exact Int.le_refl _
  | succ b ih =>
    by_cases e : a = b + 1
    · subst e; exact Int.le_refl _
    · have h1 := ih (by omega)
      have h2 := capC_pos b
      rw [capC_succ]; omega
theorem capC_12 : capC 12 = 2929687500000000 := by decide
/-- where a choice lies -/
structure ChOk (c : MCase) (p : Int × Int) (M : Int) : Prop where
  lo : -1 ≤ p.1
  hi : p.1 < c.tests.length
  c0 : 0 ≤ p.2
  c1 : p.2 ≤ M
theorem costS_bd {B : Nat → Int × Int} {outs : List Int} {s : Nat} {c0 M : Int} (h0 : 0 ≤ c0) (hM : 0 ≤ M) : ∀ {k : Nat}, (∀ o, o < k → 0 < partS outs s o → 0 ≤ (B (partS outs s o)).2 ∧ (B (partS outs s o)).2 ≤ M) → 0 ≤ costS B outs s c0 k ∧ costS B outs s c0 k ≤ c0 + M * k
  | 0, _ => by simp [costS]; exact h0
  | k + 1, h => by
    have ih := costS_bd h0 hM (k := k) fun o ho => h o (by omega)
    rw [costS, show ((k + 1 : Nat) : Int) = (k : Int) + 1 by omega, Int.mul_add, Int.mul_one]
    by_cases e : 0 < partS outs s k
    · rw [if_pos e]
      have := h k (by omega) e
      omega
    · rw [if_neg e]; omega
theorem mulWeight {c : MCase} (hok : CaseOk c) {t : MProbe} (ht : 0 ≤ t.cost ∧ t.cost ≤ 1000) {s : Nat} (hs : s < 2 ^ c.weights.length) : 0 ≤ t.cost * weightS c s ∧ t.cost * weightS c s ≤ 12000000 ∧ 0 ≤ weightS c s ∧ weightS c s ≤ 12000 := by
  have h1 := weightL_bd hok.w (bitsOf s) fun i hi => bits_lt hs hi
  have h2 := bitsOf_len s
  have h3 : 0 ≤ weightS c s ∧ weightS c s ≤ 12000 := by unfold weightS; omega
  refine ⟨Int.mul_nonneg ht.1 h3.1, ?_, h3⟩
  have := Int.mul_le_mul ht.2 h3.2 h3.1 (by omega)
  omega
theorem pickS_bd {B : Nat → Int × Int} {c : MCase} (hok : CaseOk c) {s : Nat} (hs : s < 2 ^ c.weights.length) (hB : ∀ t, t < s → (bitsOf t).length < (bitsOf s).length → 0 < t → 0 ≤ (B t).2 ∧ (B t).2 ≤ capC (bitsOf t).length) :
    ∀ {k : Nat}, k ≤ c.tests.length → ChOk c (pickS B c s k) (capC (bitsOf s).length) ∧ ((pickS B c s k).1 < k)
  | 0, _ => by
    rw [pickS]
    have := capC_pos (bitsOf s).length
    exact ⟨⟨by decide, by show (-1 : Int) < _; omega, by decide, by show (0 : Int) ≤ _; omega⟩, by decide⟩
  | k + 1, hk => by
    obtain ⟨ih, ih2⟩ := pickS_bd hok hs hB (k := k) (by omega)
    rw [pickS]
    by_cases e : partsTo (c.tests.getD k ⟨0, []⟩).outs s 4 < 2
    · rw [if_pos e]; exact ⟨ih, by omega⟩
    · rw [if_neg e]
      by_cases e2 : (pickS B c s k).1 < 0 ∨ costS B (c.tests.getD k ⟨0, []⟩).outs s ((c.tests.getD k ⟨0, []⟩).cost * weightS c s) 4 < (pickS B c s k).2
      · rw [if_pos e2]
        have hs12 := two12 hs hok.n2
        have ht : c.tests[k]? = some (c.tests.getD k ⟨0, []⟩) := by rw [List.getD_eq_getElem?_getD, List.getElem?_eq_getElem (by omega)]; rfl
        have hp := hok.p k _ ht
        have hm := mulWeight hok hp.1 hs
        have hcap : 0 < (bitsOf s).length := by
          obtain ⟨p, _, _, h2⟩ := partsTo_two (o := 0) (show 2 ≤ partsTo (c.tests.getD k ⟨0, []⟩).outs s 4 by omega)
          exact bitsOf_pos (by have := partS_le (outs := (c.tests.getD k ⟨0, []⟩).outs) (o := p) hs12; omega) hs12
        obtain ⟨m, hmm⟩ : ∃ m, (bitsOf s).length = m + 1 := ⟨(bitsOf s).length - 1, by omega⟩
        have hc := costS_bd (B := B) (outs := (c.tests.getD k ⟨0, []⟩).outs) (s := s) (c0 := (c.tests.getD k ⟨0, []⟩).cost * weightS c s) (M := capC m) hm.1 (by have := capC_pos m; omega) (k := 4) fun o _ ho => by
          obtain ⟨p, _, hpo, h2⟩ := partsTo_two (o := o) (show 2 ≤ partsTo (c.tests.getD k ⟨0, []⟩).outs s 4 by omega)
          have h3 := part_fewer hs12 (fun e => hpo e.symm) h2
          have h4 := hB _ (partS_ne hs12 (fun e => hpo e.symm) h2) h3 ho
          have h5 := capC_mono (show (bitsOf (partS (c.tests.getD k ⟨0, []⟩).outs s o)).length ≤ m by omega)
          omega
        have hp0 := capC_pos m
        have hps := capC_succ m
        rw [← hmm] at hps
        generalize costS B (c.tests.getD k ⟨0, []⟩).outs s ((c.tests.getD k ⟨0, []⟩).cost * weightS c s) 4 = C at *
        exact ⟨⟨by show -1 ≤ (k : Int); omega, by show (k : Int) < _; omega, hc.1, by show C ≤ _; omega⟩, by show (k : Int) < _; omega⟩
      · rw [if_neg e2]; exact ⟨ih, by omega⟩
theorem bestS_bd {c : MCase} (hok : CaseOk c) : ∀ (s : Nat), s < 2 ^ c.weights.length → ChOk c (bestS c s) (capC (bitsOf s).length) := by
  intro s
  induction s using Nat.strongRecOn with
  | ind s ih =>
    intro hs
    rw [bestS_eq c (two12 hs hok.n2)]
    exact (pickS_bd hok hs (fun t ht _ _ => by
      have := ih t ht (by omega)
      exact ⟨this.c0, this.c1⟩) (Nat.le_refl _)).1
theorem bestS_cap {c : MCase} (hok : CaseOk c) {s : Nat} (hs : s < 2 ^ c.weights.length) : -1 ≤ (bestS c s).1 ∧ (bestS c s).1 < c.tests.length ∧ 0 ≤ (bestS c s).2 ∧ (bestS c s).2 ≤ 2929687500000000 := by
  have h := bestS_bd hok s hs
  have h1 := capC_mono (bitsOf_len s)
  rw [capC_12] at h1
  exact ⟨h.lo, h.hi, h.c0, Int.le_trans h.c1 h1⟩
theorem pickS_cap {c : MCase} (hok : CaseOk c) {s : Nat} (hs : s < 2 ^ c.weights.length) {k : Nat} (hk : k ≤ c.tests.length) : -1 ≤ (pickS (bestS c) c s k).1 ∧ (pickS (bestS c) c s k).1 < k ∧ 0 ≤ (pickS (bestS c) c s k).2 ∧ (pickS (bestS c) c s k).2 ≤ 2929687500000000 := by
  have h := pickS_bd (B := bestS c) hok hs (fun t ht _ _ => by
      have := bestS_bd hok t (by omega)
      exact ⟨this.c0, this.c1⟩) hk
  have h1 := capC_mono (bitsOf_len s)
  rw [capC_12] at h1
  exact ⟨h.1.lo, h.2, h.1.c0, Int.le_trans h.1.c1 h1⟩
end Go.Proofs.YtonpemikodajdaaDoor

/- The map of known choices: what is looked up is the best choice, what is stored keeps it so. -/
namespace Go.Proofs.YtonpemikodajdaaDoor
open Go.RowKit

def chD (p : Int × Int) : DataW Unit := .agg [.lit (.int .i64 p.1), .lit (.int .i64 p.2)]
def encL : List Value → Option (DataW Unit × List MemPlace)
  | [.int .i64 t, .int .i64 n] => some (chD (t, n), [])
  | _ => none
def encC : Value → Option (DataW Unit × List MemPlace)
  | .agg cs => encL cs.toList
  | _ => none
theorem encC_mk (t n : Int) : encC (.agg #[.int .i64 t, .int .i64 n]) = some (chD (t, n), []) := rfl
theorem encL_any {l : List Value} {d : DataW Unit} {ps : List MemPlace} (h : encL l = some (d, ps)) : ∃ t n, l = [.int .i64 t, .int .i64 n] ∧ d = chD (t, n) := by
  unfold encL at h
  split at h
  · injection h with h
    injection h with h
    exact ⟨_, _, rfl, h.symm⟩
  · cases h
theorem encC_any {v : Value} {d : DataW Unit} {ps : List MemPlace} (h : encC v = some (d, ps)) : ∃ t n, v = .agg #[.int .i64 t, .int .i64 n] ∧ d = chD (t, n) := by
  unfold encC at h
  split at h
  · rename_i cs
    obtain ⟨t, n, h1, h2⟩ := encL_any h
    exact ⟨t, n, by rw [← h1], h2⟩
  · cases h
theorem encC_inv {v : Value} {t n : Int} {ps : List MemPlace} (h : encC v = some (chD (t, n), ps)) : v = .agg #[.int .i64 t, .int .i64 n] := by
  obtain ⟨t', n', rfl, h2⟩ := encC_any h
  unfold chD at h2
  injection h2 with h2
  injection h2 with h3 h4
  injection h4 with h4 _
  injection h3 with h3
  injection h4 with h4
  injection h3 with _ h3
  injection h4 with _ h4
  have h3 : t = t' := h3
  have h4 : n = n' := h4
  rw [h3, h4]
def keyL (k : Nat) : Lit := .int .u64 (k : Int)
def cntK (D : DataW Unit) : Nat → Nat
  | 0 => 0
  | k + 1 => cntK D k + if Maps.has D (keyL k) = true then 1 else 0
theorem cntK_le (D : DataW Unit) : ∀ k, cntK D k ≤ k
  | 0 => Nat.le_refl _
  | k + 1 => by
    rw [cntK]
    have := cntK_le D k
    split <;> omega
/-- the map in block mb holds best choices -/
def KnM (w : World) (mb : Nat) (c : MCase) : Prop := ∃ D : DataW Unit, w.ownsMap Tryd.prog 97 encC mb (Maps.size D) D ∧ Maps.size D ≤ cntK D 4096 ∧ ∀ k, k < 4096 → Maps.has D (keyL k) = true → ∀ z, D.atKey (keyL k) z = chD (bestS c k)
theorem u97 : Tryd.prog.underlying 97 = some (.int .u64) := by kernel_rfl
theorem u92 : Tryd.prog.underlying 92 = some (.map 97 100) := by kernel_rfl
theorem z100 (w : World) : (zeroValue 100).run Tryd.prog w = .ok (.agg #[.int .i64 0, .int .i64 0]) w := by kernel_rfl
theorem keyed97 : Maps.Keyed Tryd.prog 97 := Maps.int_keyed u97
theorem keyL_wf {k : Nat} (h : k < 4096) : (Lit.int .u64 (k : Int)).wf = true := by
  simp [Lit.wf, IntKind.min, IntKind.max, IntKind.bits, IntKind.signed]
  omega
theorem keyOf97 {k : Nat} (h : k < 4096) : keyOf Tryd.prog 97 (.int .u64 (k : Int)) = some (keyL k) := Maps.keyOf_int_mk u97 (keyL_wf h)
theorem keyL_inj {a b : Nat} (h : a ≠ b) : keyL a ≠ keyL b := fun e => by
  unfold keyL at e
  injection e with _ e
  omega
theorem KnM.made (w : World) (c : MCase) : KnM (w.alloc (.map #[] 0)) w.heap.size c :=
  ⟨.map [], World.ownsMap_made w Tryd.prog 97 encC, Nat.zero_le _, fun k _ h => by cases h⟩
theorem KnM.lt {w : World} {mb : Nat} {c : MCase} (h : KnM w mb c) : mb < w.heap.size := by
  obtain ⟨D, h1, _⟩ := h
  exact h1.lt
theorem KnM.kept {w w' : World} {mb : Nat} {c : MCase} {row : Option Nat} (h : KnM w mb c) (hg : w.grownBy w' row) (hne : some mb ≠ row) : KnM w' mb c := by
  obtain ⟨D, h1, h2⟩ := h
  exact ⟨D, h1.kept hg hne, h2⟩
theorem KnM.alloc {w : World} {mb : Nat} {c : MCase} (h : KnM w mb c) (o : Obj) : KnM (w.alloc o) mb c := h.kept (World.grownBy_alloc w o none) (by simp)
theorem KnM.drew {w : World} {mb : Nat} {c : MCase} (h : KnM w mb c) : KnM w.drew mb c := h
theorem KnM.drewN {w : World} {mb : Nat} {c : MCase} (h : KnM w mb c) (n : Nat) : KnM (w.drewN n) mb c := h
theorem KnM.below {w w' : World} {mb B : Nat} {c : MCase} (h : KnM w mb c) (hb : Below B w w') (hB : mb < B) : KnM w' mb c := by
  obtain ⟨D, ⟨es, clock, e1, e2⟩, h2⟩ := h
  exact ⟨D, ⟨es, clock, (hb.block mb hB).trans e1, e2⟩, h2⟩
theorem KnM.far {w : World} {mb : Nat} {c : MCase} (h : KnM w mb c) {a : Addr} (ha : mb ≠ a.block) (u : Value) : KnM (w.setCell a u) mb c := by
  obtain ⟨D, h1, h2⟩ := h
  exact ⟨D, h1.setCell ha u, h2⟩
theorem tight {w : World} {mb n : Nat} {D : DataW Unit} (h : w.ownsMap Tryd.prog 97 encC mb n D) : w.ownsMap Tryd.prog 97 encC mb (Maps.size D) D := by
  obtain ⟨es, clock, h1, h2, h3, h4⟩ := h
  refine ⟨es, clock, h1, h2, ?_, h4⟩
  rw [h4, Maps.size_eq, length_read]
  exact Nat.le_refl _
section
variable {ops : Array Oper} {rest : List Oper} {o : Oper} {a : Act} {Q : Exit → Act → World → Prop}
set_option maxRecDepth 100000 in
theorem look_known (w : World) (hg : o.guard = none) (m x : Operand) (hop : o.op = Op.lookup 92 m x true) (mb : Nat) (c : MCase) (hm : a.eval m = .map (some mb)) (h : KnM w mb c) (k : Nat) (hk : k < 4096) (hx : a.eval x = .int .u64 (k : Int))
    (hK : ∀ (t n : Int) (is : Bool), (is = true → t = (bestS c k).1 ∧ n = (bestS c k).2) → wpList Tryd.prog ops Q rest (a.put o.dst (.tuple #[.agg #[.int .i64 t, .int .i64 n], .bool is])) w) : wpList Tryd.prog ops Q (o :: rest) a w := by
  obtain ⟨D, h1, h2, h3⟩ := h
  refine wpList_lookup_own_ok w hg m x 92 hop 97 100 keyed97 u92 encC (z100 w) (chD (0, 0)) [] (encC_mk 0 0) mb _ D hm h1 _ (keyL k) hx (keyOf97 hk) (fun v ps hv => ?_)
  rcases hh : Maps.has D (keyL k)
  · obtain ⟨t, n, rfl, _⟩ := encC_any hv
    exact hK t n false (fun h => by cases h)
  · rw [h3 k hk hh] at hv
    rw [encC_inv (t := (bestS c k).1) (n := (bestS c k).2) hv]
    exact hK _ _ true fun _ => ⟨rfl, rfl⟩
theorem cntK_put {D : DataW Unit} (hD : Maps.IsMap D) {k : Nat} (d : DataW Unit) : ∀ n, cntK (D.put (keyL k) d) n = cntK D n + if k < n ∧ Maps.has D (keyL k) = false then 1 else 0
  | 0 => by simp [cntK]
  | n + 1 => by
    rw [cntK, cntK, cntK_put hD d n]
    by_cases e : n = k
    · subst e
      rw [Maps.has_put_same hD (by trivial) d, if_pos rfl, if_neg (show ¬ (n < n ∧ _) by omega)]
      rcases hh : Maps.has D (keyL n)
      · rw [if_neg (by simp), if_pos ⟨by omega, rfl⟩]
      · rw [if_pos rfl, if_neg (by simp)]
    · rw [Maps.has_put_other (keyL_inj e) d]
      have : (if k < n + 1 ∧ Maps.has D (keyL k) = false then 1 else 0) = (if k < n ∧ Maps.has D (keyL k) = false then 1 else (0 : Nat)) := by
        by_cases h2 : Maps.has D (keyL k) = false
        · by_cases h1 : k < n
          · rw [if_pos (show k < n + 1 ∧ Maps.has D (keyL k) = false from ⟨by omega, h2⟩), if_pos (show k < n ∧ Maps.has D (keyL k) = false from ⟨h1, h2⟩)]
          · rw [if_neg (show ¬ (k < n + 1 ∧ Maps.has D (keyL k) = false) from fun h => by have := h.1; omega), if_neg (show ¬ (k < n ∧ Maps.has D (keyL k) = false) from fun h => h1 h.1)]
        · rw [if_neg (show ¬ (k < n + 1 ∧ Maps.has D (keyL k) = false) from fun h => h2 h.2), if_neg (show ¬ (k < n ∧ Maps.has D (keyL k) = false) from fun h => h2 h.2)]
      rw [this]
      omega
set_option maxRecDepth 100000 in
theorem put_known (w : World) (hg : o.guard = none) (m x v : Operand) (hop : o.op = Op.mapUpdate 92 m x v) (mb : Nat) (c : MCase) (hm : a.eval m = .map (some mb)) (h : KnM w mb c) (k : Nat) (hk : k < 4096) (hx : a.eval x = .int .u64 (k : Int))
    {t n : Int} (hv : a.eval v = .agg #[.int .i64 t, .int .i64 n]) (ht : t = (bestS c k).1) (hn : n = (bestS c k).2)
    (hK : ∀ w', KnM w' mb c → w.grownBy w' (some mb) → wpList Tryd.prog ops Q rest (a.put o.dst undef) w') : wpList Tryd.prog ops Q (o :: rest) a w := by
  obtain ⟨D, h1, h2, h3⟩ := h
  have hc := cntK_le D 4096
  refine wpList_mapUpdate_own w hg m x v 92 hop 97 100 keyed97 u92 encC mb _ D hm h1 (by unfold maxLen; omega) _ _ (keyL k) hx hv (keyOf97 hk) _ _ (encC_mk t n) (fun w' h4 h5 => hK w' ⟨_, tight h4, ?_, fun j hj hh z => ?_⟩ h5)
  · have h6 := Maps.size_put (k := keyL k) (h1.tidy keyed97) (chD (t, n))
    rw [cntK_put h1.isMap, h6]
    rcases hh : Maps.has D (keyL k)
    · rw [if_neg (by simp), if_pos ⟨hk, rfl⟩]; omega
    · rw [if_pos rfl, if_neg (by simp)]; omega
  · by_cases e : j = k
    · subst e
      rw [Maps.atKey_put_same h1.isMap (by trivial), ht, hn]
    · rw [Maps.has_put_other (keyL_inj e)] at hh
      rw [Maps.atKey_put_other (keyL_inj e)]
      exact h3 j hj hh z
end
end Go.Proofs.YtonpemikodajdaaDoor

/- Plain: the tree that grows from a set. -/
namespace Go.Proofs.YtonpemikodajdaaDoor
open Go.RowKit

structure MFork where
  test : Int
  next : List Int
  set : List Int
def testAt (c : MCase) (t : Int) : MProbe := c.tests.getD t.toNat ⟨0, []⟩
/-- the forks below the first o outcomes, the first of them number n + 1, and their numbers -/
def kidsF (G : Nat → Nat → List MFork) (outs : List Int) (s n : Nat) : Nat → List MFork × List Int
  | 0 => ([], [])
  | o + 1 =>
    if 0 < partS outs s o then ((kidsF G outs s n o).1 ++ G (partS outs s o) (n + 1 + (kidsF G outs s n o).1.length), (kidsF G outs s n o).2 ++ [((n + 1 + (kidsF G outs s n o).1.length : Nat) : Int)])
    else ((kidsF G outs s n o).1, (kidsF G outs s n o).2 ++ [-1])
def growF (c : MCase) : Nat → Nat → Nat → List MFork
  | 0, _, _ => []
  | u + 1, s, n =>
    if (bestS c s).1 < 0 then [⟨(bestS c s).1, [], bitsI s⟩]
    else ⟨(bestS c s).1, (kidsF (growF c u) (testAt c (bestS c s).1).outs s n 4).2, bitsI s⟩ :: (kidsF (growF c u) (testAt c (bestS c s).1).outs s n 4).1
def growS (c : MCase) (s n : Nat) : List MFork := growF c (s + 1) s n
theorem pickS_parts {B : Nat → Int × Int} {c : MCase} {s : Nat} : ∀ {k : Nat}, 0 ≤ (pickS B c s k).1 → 2 ≤ partsTo (testAt c (pickS B c s k).1).outs s 4
  | 0, h => by rw [pickS] at h; exact absurd h (by decide)
  | k + 1, h => by
    rw [pickS] at h ⊢
    by_cases e : partsTo (c.tests.getD k ⟨0, []⟩).outs s 4 < 2
    · rw [if_pos e] at h ⊢
      exact pickS_parts h
    · rw [if_neg e] at h ⊢
      by_cases e2 : (pickS B c s k).1 < 0 ∨ costS B (c.tests.getD k ⟨0, []⟩).outs s ((c.tests.getD k ⟨0, []⟩).cost * weightS c s) 4 < (pickS B c s k).2
      · rw [if_pos e2]
        show 2 ≤ partsTo (c.tests.getD ((k : Int)).toNat ⟨0, []⟩).outs s 4
        rw [Int.toNat_natCast]
        omega
      · rw [if_neg e2] at h ⊢
        exact pickS_parts h
theorem bestS_parts {c : MCase} {s : Nat} (hs : s < 4096) (h : 0 ≤ (bestS c s).1) : 2 ≤ partsTo (testAt c (bestS c s).1).outs s 4 := by
  rw [bestS_eq c hs] at h ⊢
  exact pickS_parts h
theorem kidsF_congr {G G' : Nat → Nat → List MFork} {outs : List Int} {s n : Nat} (h : ∀ o m, G (partS outs s o) m = G' (partS outs s o) m) : ∀ k, kidsF G outs s n k = kidsF G' outs s n k
  | 0 => rfl
  | k + 1 => by rw [kidsF, kidsF, kidsF_congr h k, h]
theorem growF_enough (c : MCase) : ∀ (s : Nat), s < 4096 → ∀ u n, s < u → growF c u s n = growS c s n := by
  intro s
  induction s using Nat.strongRecOn with
  | ind s ih =>
    intro hs u n hu
    obtain ⟨v, rfl⟩ : ∃ v, u = v + 1 := ⟨u - 1, by omega⟩
    unfold growS
    rw [growF, growF]
    by_cases h : (bestS c s).1 < 0
    · rw [if_pos h, if_pos h]
    · rw [if_neg h, if_neg h]
      have hp := bestS_parts hs (show 0 ≤ (bestS c s).1 by omega)
      have : ∀ k, kidsF (growF c v) (testAt c (bestS c s).1).outs s n k = kidsF (growF c s) (testAt c (bestS c s).1).outs s n k := kidsF_congr fun o m => by
        obtain ⟨p, _, hpo, h2⟩ := partsTo_two (o := o) hp
        have h3 := partS_ne hs (fun e => hpo e.symm) h2
        rw [ih _ h3 (by omega) v m (by omega), ih _ h3 (by omega) s m h3]
      rw [this]
theorem growS_leaf {c : MCase} {s n : Nat} (h : (bestS c s).1 < 0) : growS c s n = [⟨(bestS c s).1, [], bitsI s⟩] := by unfold growS; rw [growF, if_pos h]
theorem growS_fork {c : MCase} {s n : Nat} (hs : s < 4096) (h : ¬ (bestS c s).1 < 0) : growS c s n = ⟨(bestS c s).1, (kidsF (growS c) (testAt c (bestS c s).1).outs s n 4).2, bitsI s⟩ :: (kidsF (growS c) (testAt c (bestS c s).1).outs s n 4).1 := by
  have hp := bestS_parts hs (show 0 ≤ (bestS c s).1 by omega)
  have : ∀ k, kidsF (growF c s) (testAt c (bestS c s).1).outs s n k = kidsF (growS c) (testAt c (bestS c s).1).outs s n k := kidsF_congr fun o m => by
    obtain ⟨p, _, hpo, h2⟩ := partsTo_two (o := o) hp
    have h3 := partS_ne hs (fun e => hpo e.symm) h2
    exact growF_enough c _ (by omega) s m h3
  unfold growS
  rw [growF, if_neg h, this]
  rfl
theorem kidsF_len (G : Nat → Nat → List MFork) (outs : List Int) (s n : Nat) : ∀ k, (kidsF G outs s n k).2.length = k
  | 0 => rfl
  | k + 1 => by
    rw [kidsF]
    have := kidsF_len G outs s n k
    split <;> simp [this]
theorem exC_grow : (growS exC 7 0).length = 5 := by decide +kernel
end Go.Proofs.YtonpemikodajdaaDoor

/- Plain: how many forks a tree has at the most; what Guide answers. -/
namespace Go.Proofs.YtonpemikodajdaaDoor
open Go.RowKit

theorem kidsF_len1 {G : Nat → Nat → List MFork} {outs : List Int} {s n M : Nat} (h : ∀ o m, 0 < partS outs s o → (G (partS outs s o) m).length ≤ M) : ∀ k, (kidsF G outs s n k).1.length ≤ k * M
  | 0 => by simp [kidsF]
  | k + 1 => by
    have ih := kidsF_len1 (n := n) h k
    rw [kidsF, Nat.succ_mul]
    by_cases e : 0 < partS outs s k
    · rw [if_pos e]
      have := h k (n + 1 + (kidsF G outs s n k).1.length) e
      show ((kidsF G outs s n k).1 ++ G (partS outs s k) (n + 1 + (kidsF G outs s n k).1.length)).length ≤ _
      rw [List.length_append]
      omega
    · rw [if_neg e]; show (kidsF G outs s n k).1.length ≤ _; omega
theorem growS_len (c : MCase) : ∀ (s : Nat), s < 4096 → ∀ n, (growS c s n).length ≤ 5 ^ (bitsOf s).length := by
  intro s
  induction s using Nat.strongRecOn with
  | ind s ih =>
    intro hs n
    by_cases h : (bestS c s).1 < 0
    · rw [growS_leaf h]
      exact Nat.pow_pos (by omega)
    · rw [growS_fork hs h, List.length_cons]
      have hp := bestS_parts hs (show 0 ≤ (bestS c s).1 by omega)
      obtain ⟨p0, _, _, hp0⟩ := partsTo_two (o := 0) hp
      have hpos : 0 < (bitsOf s).length := bitsOf_pos (by have := partS_le (outs := (testAt c (bestS c s).1).outs) (o := p0) hs; omega) hs
      obtain ⟨m, hm⟩ : ∃ m, (bitsOf s).length = m + 1 := ⟨(bitsOf s).length - 1, by omega⟩
      have hk := kidsF_len1 (G := growS c) (outs := (testAt c (bestS c s).1).outs) (s := s) (n := n) (M := 5 ^ m) (fun o m' _ => by
        obtain ⟨p, _, hpo, h2⟩ := partsTo_two (o := o) hp
        have h3 := part_fewer hs (fun e => hpo e.symm) h2
        have h4 := ih _ (partS_ne hs (fun e => hpo e.symm) h2) (partS_lt _ _ _) m'
        exact Nat.le_trans h4 (Nat.pow_le_pow_right (by omega) (by omega))) 4
      rw [hm, Nat.pow_succ]
      have : 1 ≤ 5 ^ m := Nat.pow_pos (by omega)
      omega
theorem growS_cap {c : MCase} {s : Nat} (hs : s < 4096) (n : Nat) : (growS c s n).length ≤ 1000000000 := by
  have h1 := growS_len c s hs n
  have h2 : 5 ^ (bitsOf s).length ≤ 5 ^ 12 := Nat.pow_le_pow_right (by omega) (bitsOf_len s)
  have h3 : 5 ^ 12 = 244140625 := by decide
  omega
def fullS (c : MCase) : Nat := 2 ^ c.weights.length - 1
theorem fullS_lt (c : MCase) : fullS c < 2 ^ c.weights.length := by
  unfold fullS
  have : 0 < 2 ^ c.weights.length := Nat.two_pow_pos _
  omega
theorem exC_ok : caseB exC = true := by decide +kernel
theorem exC_full : fullS exC = 7 := by decide +kernel
end Go.Proofs.YtonpemikodajdaaDoor

/- Forks in memory of the call's own. -/
namespace Go.Proofs.YtonpemikodajdaaDoor
open Go.RowKit

/-- a list of ints in a block that U allows -/
def IntsU (w : World) (U : Nat → Prop) (A : Option Addr) (l : List Int) : Prop :=
  0 < l.length → ∃ b off, A = some ⟨b, off, none⟩ ∧ b < w.heap.size ∧ U b ∧ ∀ i, i < l.length → w.cell? ⟨b, off + i, none⟩ = some (.int .i64 (l.getD i 0))
theorem IntsU.keep {w w' : World} {U U' : Nat → Prop} {A : Option Addr} {l : List Int} (h : IntsU w U A l) (hs : w.heap.size ≤ w'.heap.size) (hk : ∀ b, b < w.heap.size → U b → w'.heap[b]? = w.heap[b]?) (hU : ∀ b, b < w.heap.size → U b → U' b) : IntsU w' U' A l := fun hn => by
  obtain ⟨b, off, hA, hb, hu, hc⟩ := h hn
  exact ⟨b, off, hA, by omega, hU b hb hu, fun i hi => (World.cell?_of_block (w := w) (a := ⟨b, off + i, none⟩) (hk b hb hu)).trans (hc i hi)⟩
theorem IntsU.ints {w : World} {U : Nat → Prop} {A : Option Addr} {l : List Int} (h : IntsU w U A l) (hl : l.length ≤ maxLen) : IntsA w w.heap.size A l := ⟨hl, fun hn => by
  obtain ⟨b, off, hA, hb, _, hc⟩ := h hn
  exact ⟨b, off, hA, hb, hc⟩⟩
def dFork : MFork := ⟨0, [], []⟩
abbrev PV := Nat → (Option Addr × Nat) × (Option Addr × Nat)
def forkCell (F : List MFork) (pv : PV) (i j : Nat) : Value :=
  if j = 0 then .int .i64 (F.getD i dFork).test else if j = 1 then .slice (pv i).1.1 (F.getD i dFork).next.length (pv i).1.2 else .slice (pv i).2.1 (F.getD i dFork).set.length (pv i).2.2
def forkCells (F : List MFork) (pv : PV) : List Value := (List.range (F.length * 3)).map fun p => forkCell F pv (p / 3) (p % 3)
theorem forkCells_len (F : List MFork) (pv : PV) : (forkCells F pv).length = F.length * 3 := by unfold forkCells; simp
theorem forkCells_at {F : List MFork} {pv : PV} {p : Nat} (hp : p < F.length * 3) : (forkCells F pv)[p]? = some (forkCell F pv (p / 3) (p % 3)) := by
  unfold forkCells
  rw [List.getElem?_map, List.getElem?_range hp]; rfl
/-- one fork's lists -/
structure ForkU (w : World) (U : Nat → Prop) (q : (Option Addr × Nat) × (Option Addr × Nat)) (f : MFork) : Prop where
  n : IntsU w U q.1.1 f.next
  nc : f.next.length ≤ q.1.2
  s : IntsU w U q.2.1 f.set
  sc : f.set.length ≤ q.2.2
theorem ForkU.keep {w w' : World} {U U' : Nat → Prop} {q : (Option Addr × Nat) × (Option Addr × Nat)} {f : MFork} (h : ForkU w U q f) (hs : w.heap.size ≤ w'.heap.size) (hk : ∀ b, b < w.heap.size → U b → w'.heap[b]? = w.heap[b]?) (hU : ∀ b, b < w.heap.size → U b → U' b) : ForkU w' U' q f :=
  ⟨h.n.keep hs hk hU, h.nc, h.s.keep hs hk hU, h.sc⟩
/-- v holds the forks F; their lists lie neither in v's block nor in one that U0 bars -/
def OutK (w : World) (base : Nat) (U0 : Nat → Prop) (v : Value) (F : List MFork) : Prop :=
  ∃ pv : PV, w.ownsRow base 110 3 v F.length (forkCells F pv) ∧ ∀ i, i < F.length → ForkU w (fun b => U0 b ∧ some b ≠ v.ownBlock) (pv i) (F.getD i dFork)
theorem OutK.nil (w : World) (base : Nat) (U0 : Nat → Prop) : OutK w base U0 (.slice none 0 0) [] := ⟨fun _ => ((none, 0), (none, 0)), World.ownsRow_nil w base 110 3, fun i hi => by simp at hi⟩
theorem OutK.lt {w : World} {base : Nat} {U0 : Nat → Prop} {v : Value} {F : List MFork} (h : OutK w base U0 v F) : ∀ k, v.ownBlock = some k → base ≤ k ∧ k < w.heap.size := by
  obtain ⟨pv, h1, _⟩ := h
  exact own_block_lt h1
/-- nothing of it was touched -/
theorem OutK.keep {w w' : World} {base : Nat} {U0 : Nat → Prop} {v : Value} {F : List MFork} (h : OutK w base U0 v F) (hs : w.heap.size ≤ w'.heap.size) (hk : ∀ b, b < w.heap.size → U0 b → w'.heap[b]? = w.heap[b]?) (hv : ∀ k, v.ownBlock = some k → U0 k) : OutK w' base U0 v F := by
  have hlt := h.lt
  obtain ⟨pv, h1, h2⟩ := h
  refine ⟨pv, ?_, fun i hi => (h2 i hi).keep hs (fun b hb hu => hk b hb hu.1) (fun b _ hu => hu)⟩
  obtain ⟨e1, e2⟩ := h1
  refine ⟨e1, ?_⟩
  rcases e2 with e2 | ⟨g, cap, cur, hg, hb, hh, r⟩
  · exact .inl e2
  · have hob : v.ownBlock = some g := by rw [hg]; rfl
    exact .inr ⟨g, cap, cur, hg, hb, by rw [hk g (hlt g hob).2 (hv g hob)]; exact hh, r⟩
theorem OutK.lenV {w : World} {base : Nat} {U0 : Nat → Prop} {v : Value} {F : List MFork} (h : OutK w base U0 v F) : ∃ A cap, v = .slice A F.length cap ∧ F.length ≤ cap := by
  obtain ⟨pv, ⟨_, h1⟩, _⟩ := h
  rcases h1 with ⟨hv, h0⟩ | ⟨g, cap, cur, hv, hb, hh, hn, r⟩
  · exact ⟨none, 0, by rw [hv, h0], by omega⟩
  · exact ⟨_, cap, hv, hn⟩
theorem forkCell_one (F : List MFork) (pv : PV) (i j : Nat) : (forkCell F pv i j).oneCell' = true := by
  unfold forkCell
  repeat' split
  all_goals rfl
theorem info_fork : (Tryd.prog.info? 110).map (fun i => (i.zero, i.size, i.bytes)) = some (some (.agg #[.int .i64 0, .slice none 0 0, .slice none 0 0]), 3, 56) := by kernel_rfl
theorem under_forks : Tryd.prog.underlying 38 = some (.slice 110) := by kernel_rfl
theorem forkCells_app (F : List MFork) (f : MFork) (pv : PV) (q : (Option Addr × Nat) × (Option Addr × Nat)) :
    forkCells (F ++ [f]) (fun i => if i = F.length then q else pv i) = forkCells F pv ++ [.int .i64 f.test, .slice q.1.1 f.next.length q.1.2, .slice q.2.1 f.set.length q.2.2] := by
  apply List.ext_getElem?
  intro p
  by_cases hp : p < F.length * 3
  · rw [List.getElem?_append_left (by rw [forkCells_len]; exact hp), forkCells_at hp, forkCells_at (by rw [List.length_append, List.length_singleton]; omega)]
    have hi : p / 3 < F.length := by omega
    have e : (F ++ [f]).getD (p / 3) dFork = F.getD (p / 3) dFork := by rw [List.getD_eq_getElem?_getD, List.getElem?_append_left hi, List.getD_eq_getElem?_getD]
    have hq : (fun i => if i = F.length then q else pv i) (p / 3) = pv (p / 3) := if_neg (show ¬ p / 3 = F.length by omega)
    unfold forkCell
    rw [e, hq]
  · rw [List.getElem?_append_right (by rw [forkCells_len]; omega), forkCells_len]
    by_cases hp2 : p < (F.length + 1) * 3
    · rw [forkCells_at (by rw [List.length_append, List.length_singleton]; exact hp2)]
      have hi : p / 3 = F.length := by omega
      have e : (F ++ [f]).getD (p / 3) dFork = f := by rw [hi, List.getD_eq_getElem?_getD, List.getElem?_append_right (Nat.le_refl _)]; simp
      have hq : (fun i => if i = F.length then q else pv i) (p / 3) = q := if_pos hi
      unfold forkCell
      rw [e, hq]
      rcases (show p % 3 = 0 ∨ p % 3 = 1 ∨ p % 3 = 2 by omega) with h | h | h
      · rw [h, show p - F.length * 3 = 0 by omega]; rfl
      · rw [h, show p - F.length * 3 = 1 by omega]; rfl
      · rw [h, show p - F.length * 3 = 2 by omega]; rfl
    · rw [List.getElem?_eq_none (by rw [forkCells_len, List.length_append, List.length_singleton]; omega), List.getElem?_eq_none (by simp; omega)]
set_option maxRecDepth 100000 in
theorem step_app_fork {ops : Array Oper} {o : Oper} {a : Act} {K : Act → World → Prop} {Q : Exit → Act → World → Prop} {E : Prop} (w : World) (hg : o.guard = none) (s x : Operand) (ho : o.op = .call { callee := .builtin .append, args := #[s, x], argTypes := #[38, 38] }) (base : Nat) (U0 : Nat → Prop) (v : Value) (F : List MFork)
    (hs : a.eval s = v) (hown : OutK w base U0 v F) (nb : Nat) (hx : a.eval x = .slice (some ⟨nb, 0, none⟩) 1 1) (f : MFork) (q : (Option Addr × Nat) × (Option Addr × Nat)) (hf : ForkU w (fun b => U0 b ∧ some b ≠ v.ownBlock) q f)
    (h0 : w.cell? ⟨nb, 0, none⟩ = some (.int .i64 f.test)) (h1 : w.cell? ⟨nb, 1, none⟩ = some (.slice q.1.1 f.next.length q.1.2)) (h2 : w.cell? ⟨nb, 2, none⟩ = some (.slice q.2.1 f.set.length q.2.2))
    (hlen : F.length ≤ 1000000000) (hbase : base ≤ w.heap.size) (H : Nat) (hH : w.heap.size = H)
    (hK : ∀ g cap w', OutK w' base U0 (.slice (some ⟨g, 0, none⟩) (F.length + 1) cap) (F ++ [f]) → w.grownBy w' v.ownBlock → (v.ownBlock = some g ∨ g = H) → g < w'.heap.size → K (a.put o.dst (.slice (some ⟨g, 0, none⟩) (F.length + 1) cap)) w') :
    if Region.wanted o (yielded ops a.tmps) = true then Oper.wp Tryd.prog o a w K Q else E := by
  obtain ⟨i0, hi, hz0, hz1, hz2⟩ := info_parts info_fork
  obtain ⟨pv, hrow, hl⟩ := hown
  have hvl := own_block_lt hrow
  refine step_append_lies w hg s x 38 ho base 110 i0 _ 3 56 under_forks hi hz0 hz1 hz2 rfl (by decide) v F.length _ hs hrow ⟨nb, 0, none⟩ 1 1 [.int .i64 f.test, .slice q.1.1 f.next.length q.1.2, .slice q.2.1 f.set.length q.2.2] hx rfl ?_ ?_ (by omega) (by unfold maxLen; omega) (by omega) hbase H hH (fun g cap w' e1 e2 e3 e4 => hK g cap w' ⟨fun i => if i = F.length then q else pv i, ?_, fun i hil => ?_⟩ e2 e3 e4)
  · intro j u hj
    rcases j with _ | _ | _ | j
    · simp only [List.getElem?_cons_zero, Option.some.injEq] at hj; subst hj; exact h0
    · simp only [List.getElem?_cons_succ, List.getElem?_cons_zero, Option.some.injEq] at hj; subst hj; exact h1
    · simp only [List.getElem?_cons_succ, List.getElem?_cons_zero, Option.some.injEq] at hj; subst hj; exact h2
    · simp at hj
  · intro u hu
    simp only [List.mem_cons, List.not_mem_nil, or_false] at hu
    rcases hu with rfl | rfl | rfl <;> rfl
  · rw [forkCells_app]
    rw [List.length_append, List.length_singleton]
    exact e1
  · have hsz := e2.size
    have hkeep : ∀ b, b < w.heap.size → (U0 b ∧ some b ≠ v.ownBlock) → w'.heap[b]? = w.heap[b]? := fun b hb hu => e2.block b hb hu.2
    have hU : ∀ b, b < w.heap.size → (U0 b ∧ some b ≠ v.ownBlock) → (U0 b ∧ some b ≠ Value.ownBlock (.slice (some ⟨g, 0, none⟩) (F.length + 1) cap)) := fun b hb hu => ⟨hu.1, fun e => by
      have e : some b = some g := e
      injection e with e
      subst e
      rcases e3 with e3 | e3
      · exact hu.2 e3.symm
      · omega⟩
    rw [List.length_append, List.length_singleton] at hil
    by_cases e : i = F.length
    · subst e
      have : (F ++ [f]).getD F.length dFork = f := by rw [List.getD_eq_getElem?_getD, List.getElem?_append_right (Nat.le_refl _)]; simp
      rw [this]
      simp only [if_true]
      exact hf.keep hsz hkeep hU
    · have hi2 : i < F.length := by omega
      have : (F ++ [f]).getD i dFork = F.getD i dFork := by rw [List.getD_eq_getElem?_getD, List.getElem?_append_left hi2, List.getD_eq_getElem?_getD]
      rw [this]
      simp only [if_neg e]
      exact (hl i hi2).keep hsz hkeep hU
/-- the field Next of one fork is stored -/
theorem OutK.setNext {w : World} {base : Nat} {U0 : Nat → Prop} {g n cap : Nat} {F : List MFork} (h : OutK w base U0 (.slice (some ⟨g, 0, none⟩) n cap) F) {i : Nat} (hi : i < F.length) (A : Option Addr) (nc : Nat) (l : List Int) (hl : IntsU w (fun b => U0 b ∧ some b ≠ some g) A l) (hc : l.length ≤ nc) :
    (∃ u, w.cell? ⟨g, i * 3 + 1, none⟩ = some u) ∧ w.frozen? ⟨g, i * 3 + 1, none⟩ = false ∧ OutK (w.setCell ⟨g, i * 3 + 1, none⟩ (.slice A l.length nc)) base U0 (.slice (some ⟨g, 0, none⟩) n cap) (F.set i ⟨(F.getD i dFork).test, l, (F.getD i dFork).set⟩) := by
  obtain ⟨pv, ⟨e1, e2⟩, h2⟩ := h
  rcases e2 with ⟨e2, _⟩ | ⟨g', cap', cur, hg, hb, hh, hn, hm, hsz, htk⟩
  · cases e2
  · injection hg with hg hn1 hn2
    injection hg with hg
    injection hg with hg
    subst hg
    have hcur : i * 3 + 1 < cur.size := by omega
    refine ⟨⟨_, (cell_of_row w g _ cur 110 (0, 0) hh).trans (Array.getElem?_eq_getElem hcur)⟩, by simp [World.frozen?, hh], ⟨fun j => if j = i then ((A, nc), (pv i).2) else pv j, ⟨by rw [forkCells_len, List.length_set], .inr ⟨g, cap', cur.setIfInBounds (i * 3 + 1) (.slice A l.length nc), by rw [List.length_set, hn1, hn2], hb, ?_, by rw [List.length_set]; exact hn, hm, by rw [Array.size_setIfInBounds]; exact hsz, ?_⟩⟩, fun j hj => ?_⟩⟩
    · simp only [World.setCell]
      rw [Array.getElem?_modify, if_pos rfl, hh]; rfl
    · apply List.ext_getElem?
      intro p
      rw [List.getElem?_take, Array.getElem?_toList, Array.getElem?_setIfInBounds, List.length_set]
      have hold : (cur.toList.take (F.length * 3))[p]? = (forkCells F pv)[p]? := by rw [htk]
      rw [List.getElem?_take, Array.getElem?_toList] at hold
      by_cases hp : p < F.length * 3
      · rw [if_pos hp] at hold ⊢
        rw [forkCells_at (by rw [List.length_set]; exact hp)]
        rw [forkCells_at hp] at hold
        by_cases hpi : p / 3 = i
        · have e : (F.set i ⟨(F.getD i dFork).test, l, (F.getD i dFork).set⟩).getD (p / 3) dFork = ⟨(F.getD i dFork).test, l, (F.getD i dFork).set⟩ := by rw [hpi, List.getD_eq_getElem?_getD, List.getElem?_set_self hi]; rfl
          have hq : (fun j => if j = i then ((A, nc), (pv i).2) else pv j) (p / 3) = ((A, nc), (pv i).2) := if_pos hpi
          unfold forkCell at hold ⊢
          rw [e, hq]
          rw [hpi] at hold
          rcases (show p % 3 = 0 ∨ p % 3 = 1 ∨ p % 3 = 2 by omega) with h | h | h
          · rw [h] at hold ⊢
            rw [if_neg (show ¬ i * 3 + 1 = p by omega), hold]; rfl
          · rw [h]
            rw [if_pos (show i * 3 + 1 = p by omega), if_pos hcur]; rfl
          · rw [h] at hold ⊢
            rw [if_neg (show ¬ i * 3 + 1 = p by omega), hold]; rfl
        · have e : (F.set i ⟨(F.getD i dFork).test, l, (F.getD i dFork).set⟩).getD (p / 3) dFork = F.getD (p / 3) dFork := by
            rw [List.getD_eq_getElem?_getD, List.getElem?_set_ne (fun e => hpi e.symm), List.getD_eq_getElem?_getD]
          have hq : (fun j => if j = i then ((A, nc), (pv i).2) else pv j) (p / 3) = pv (p / 3) := if_neg hpi
          unfold forkCell at hold ⊢
          rw [e, hq, if_neg (show ¬ i * 3 + 1 = p by omega), hold]
      · rw [if_neg hp, List.getElem?_eq_none (by rw [forkCells_len, List.length_set]; omega)]
    · rw [List.length_set] at hj
      have hkeep : ∀ b, b < w.heap.size → (U0 b ∧ some b ≠ some g) → (w.setCell ⟨g, i * 3 + 1, none⟩ (.slice A l.length nc)).heap[b]? = w.heap[b]? := fun b _ hu => Below.heap_setCell w ⟨g, i * 3 + 1, none⟩ _ b (fun e => hu.2 (by rw [e]))
      have hss : w.heap.size ≤ (w.setCell ⟨g, i * 3 + 1, none⟩ (.slice A l.length nc)).heap.size := by simp
      by_cases e : j = i
      · subst e
        have e : (F.set j ⟨(F.getD j dFork).test, l, (F.getD j dFork).set⟩).getD j dFork = ⟨(F.getD j dFork).test, l, (F.getD j dFork).set⟩ := by rw [List.getD_eq_getElem?_getD, List.getElem?_set_self hi]; rfl
        rw [e]
        simp only [if_true]
        have ho := h2 j hi
        exact ⟨hl.keep hss hkeep (fun _ _ h => h), hc, ho.s.keep hss hkeep (fun _ _ h => h), ho.sc⟩
      · have e' : (F.set i ⟨(F.getD i dFork).test, l, (F.getD i dFork).set⟩).getD j dFork = F.getD j dFork := by
          rw [List.getD_eq_getElem?_getD, List.getElem?_set_ne (fun e2 => e e2.symm), List.getD_eq_getElem?_getD]
        rw [e']
        simp only [if_neg e]
        exact (h2 j hj).keep hss hkeep (fun _ _ h => h)
end Go.Proofs.YtonpemikodajdaaDoor
