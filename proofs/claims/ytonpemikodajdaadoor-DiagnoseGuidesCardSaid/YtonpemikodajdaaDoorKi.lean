/- Maps from ints to ints of the call's own; sets as numbers: mask. -/
import Derived.Test.YtonpemikodajdaaDoorOv
import Derived.Maps.OwnOps
namespace Go.Proofs.YtonpemikodajdaaDoor
open Go.RowKit

def encI : Value → Option (DataW Unit × List MemPlace)
  | .int .i64 n => some (.lit (.int .i64 n), [])
  | _ => none
theorem encI_mk (n : Int) : encI (.int .i64 n) = some (.lit (.int .i64 n), []) := rfl
theorem encI_any {v : Value} {d : DataW Unit} {ps : List MemPlace} (h : encI v = some (d, ps)) : ∃ n, v = .int .i64 n ∧ d = .lit (.int .i64 n) := by
  unfold encI at h
  split at h
  · rename_i n
    injection h with h
    injection h with h1 _
    exact ⟨n, rfl, h1.symm⟩
  · cases h
theorem encI_inv {v : Value} {n : Int} {ps : List MemPlace} (h : encI v = some (.lit (.int .i64 n), ps)) : v = .int .i64 n := by
  obtain ⟨m, hv, hd⟩ := encI_any h
  injection hd with hd
  injection hd with _ hd
  rw [hv, hd]
def keyI (k : Nat) : Lit := .int .i64 (k : Int)
def cntI (D : DataW Unit) : Nat → Nat
  | 0 => 0
  | k + 1 => cntI D k + if Maps.has D (keyI k) = true then 1 else 0
theorem cntI_le (D : DataW Unit) : ∀ k, cntI D k ≤ k
  | 0 => Nat.le_refl _
  | k + 1 => by
    rw [cntI]
    have := cntI_le D k
    split <;> omega
/-- the map in block mb holds f at the keys that p tells -/
def KnI (w : World) (mb : Nat) (f : Nat → Int) (p : Nat → Prop) : Prop := ∃ D : DataW Unit, w.ownsMap Tryd.prog 3 encI mb (Maps.size D) D ∧ Maps.size D ≤ cntI D 4096 ∧ ∀ k, k < 4096 → (Maps.has D (keyI k) = true ↔ p k) ∧ (Maps.has D (keyI k) = true → ∀ z, D.atKey (keyI k) z = .lit (.int .i64 (f k)))
theorem u3 : Tryd.prog.underlying 3 = some (.int .i64) := by kernel_rfl
theorem u103 : Tryd.prog.underlying 103 = some (.map 3 3) := by kernel_rfl
theorem z3 (w : World) : (zeroValue 3).run Tryd.prog w = .ok (.int .i64 0) w := by kernel_rfl
theorem keyed3 : Maps.Keyed Tryd.prog 3 := Maps.int_keyed u3
theorem keyI_wf {k : Nat} (h : k < 4096) : (Lit.int .i64 (k : Int)).wf = true := by
  simp [Lit.wf, IntKind.min, IntKind.max, IntKind.bits, IntKind.signed]
  omega
theorem keyOf3 {k : Nat} (h : k < 4096) : keyOf Tryd.prog 3 (.int .i64 (k : Int)) = some (keyI k) := Maps.keyOf_int_mk u3 (keyI_wf h)
theorem keyI_inj {a b : Nat} (h : a ≠ b) : keyI a ≠ keyI b := fun e => by
  unfold keyI at e
  injection e with _ e
  omega
section
variable {w w' : World} {mb : Nat} {f : Nat → Int} {p : Nat → Prop}
theorem KnI.made (w : World) (f : Nat → Int) : KnI (w.alloc (.map #[] 0)) w.heap.size f (fun _ => False) :=
  ⟨.map [], World.ownsMap_made w Tryd.prog 3 encI, Nat.zero_le _, fun k _ => ⟨⟨fun h => (by cases h), fun h => False.elim h⟩, fun h => (by cases h)⟩⟩
theorem KnI.lt (h : KnI w mb f p) : mb < w.heap.size := by
  obtain ⟨D, h1, _⟩ := h
  exact h1.lt
theorem KnI.block (h : KnI w mb f p) (hb : w'.heap[mb]? = w.heap[mb]?) : KnI w' mb f p := by
  obtain ⟨D, ⟨es, clock, e1, e2⟩, h2⟩ := h
  exact ⟨D, ⟨es, clock, hb.trans e1, e2⟩, h2⟩
theorem KnI.below {B : Nat} (h : KnI w mb f p) (hb : Below B w w') (hB : mb < B) : KnI w' mb f p := h.block (hb.block mb hB)
theorem KnI.kept {row : Option Nat} (h : KnI w mb f p) (hg : w.grownBy w' row) (hne : some mb ≠ row) : KnI w' mb f p := h.block (hg.block mb h.lt hne)
theorem tightI {n : Nat} {D : DataW Unit} (h : w.ownsMap Tryd.prog 3 encI mb n D) : w.ownsMap Tryd.prog 3 encI mb (Maps.size D) D := by
  obtain ⟨es, clock, h1, h2, h3, h4⟩ := h
  refine ⟨es, clock, h1, h2, ?_, h4⟩
  rw [h4, Maps.size_eq, length_read]
  exact Nat.le_refl _
end
section
variable {ops : Array Oper} {rest : List Oper} {o : Oper} {a : Act} {Q : Exit → Act → World → Prop}
set_option maxRecDepth 100000 in
theorem look_ok (w : World) (hg : o.guard = none) (m x : Operand) (hop : o.op = Op.lookup 103 m x true) (mb : Nat) (f : Nat → Int) (p : Nat → Prop) (hm : a.eval m = .map (some mb)) (h : KnI w mb f p) (k : Nat) (hk : k < 4096) (hx : a.eval x = .int .i64 (k : Int))
    (hK : ∀ (n : Int) (is : Bool), (is = true ↔ p k) → (is = true → n = f k) → wpList Tryd.prog ops Q rest (a.put o.dst (.tuple #[.int .i64 n, .bool is])) w) : wpList Tryd.prog ops Q (o :: rest) a w := by
  obtain ⟨D, h1, h2, h3⟩ := h
  refine wpList_lookup_own_ok w hg m x 103 hop 3 3 keyed3 u103 encI (z3 w) (.lit (.int .i64 0)) [] (encI_mk 0) mb _ D hm h1 _ (keyI k) hx (keyOf3 hk) (fun v ps hv => ?_)
  rcases hh : Maps.has D (keyI k)
  · obtain ⟨n, rfl, _⟩ := encI_any hv
    exact hK n false (by rw [← (h3 k hk).1, hh]) (fun h => by cases h)
  · rw [(h3 k hk).2 hh] at hv
    rw [encI_inv hv]
    exact hK _ true (by rw [← (h3 k hk).1, hh]) (fun _ => rfl)
theorem cntI_put {D : DataW Unit} (hD : Maps.IsMap D) {k : Nat} (d : DataW Unit) : ∀ n, cntI (D.put (keyI k) d) n = cntI D n + if k < n ∧ Maps.has D (keyI k) = false then 1 else 0
  | 0 => by simp [cntI]
  | n + 1 => by
    rw [cntI, cntI, cntI_put hD d n]
    by_cases e : n = k
    · subst e
      rw [Maps.has_put_same hD (by trivial) d, if_pos rfl, if_neg (show ¬ (n < n ∧ _) by omega)]
      rcases hh : Maps.has D (keyI n)
      · rw [if_neg (by simp), if_pos ⟨by omega, rfl⟩]
      · rw [if_pos rfl, if_neg (by simp)]
    · rw [Maps.has_put_other (keyI_inj e) d]
      have : (if k < n + 1 ∧ Maps.has D (keyI k) = false then 1 else 0) = (if k < n ∧ Maps.has D (keyI k) = false then 1 else (0 : Nat)) := by
        by_cases h2 : Maps.has D (keyI k) = false
        · by_cases h1 : k < n
          · rw [if_pos (show k < n + 1 ∧ Maps.has D (keyI k) = false from ⟨by omega, h2⟩), if_pos (show k < n ∧ Maps.has D (keyI k) = false from ⟨h1, h2⟩)]
          · rw [if_neg (show ¬ (k < n + 1 ∧ Maps.has D (keyI k) = false) from fun h => by have := h.1; omega), if_neg (show ¬ (k < n ∧ Maps.has D (keyI k) = false) from fun h => h1 h.1)]
        · rw [if_neg (show ¬ (k < n + 1 ∧ Maps.has D (keyI k) = false) from fun h => h2 h.2), if_neg (show ¬ (k < n ∧ Maps.has D (keyI k) = false) from fun h => h2 h.2)]
      rw [this]
      omega
set_option maxRecDepth 100000 in
theorem put_int (w : World) (hg : o.guard = none) (m x v : Operand) (hop : o.op = Op.mapUpdate 103 m x v) (mb : Nat) (f : Nat → Int) (p : Nat → Prop) (hm : a.eval m = .map (some mb)) (h : KnI w mb f p) (k : Nat) (hk : k < 4096) (hx : a.eval x = .int .i64 (k : Int))
    {n : Int} (hv : a.eval v = .int .i64 n) (hn : n = f k)
    (hK : ∀ w', KnI w' mb f (fun j => j = k ∨ p j) → w.grownBy w' (some mb) → wpList Tryd.prog ops Q rest (a.put o.dst undef) w') : wpList Tryd.prog ops Q (o :: rest) a w := by
  obtain ⟨D, h1, h2, h3⟩ := h
  have hc := cntI_le D 4096
  refine wpList_mapUpdate_own w hg m x v 103 hop 3 3 keyed3 u103 encI mb _ D hm h1 (by unfold maxLen; omega) _ _ (keyI k) hx hv (keyOf3 hk) _ _ (encI_mk n) (fun w' h4 h5 => hK w' ⟨_, tightI h4, ?_, fun j hj => ⟨?_, fun hh z => ?_⟩⟩ h5)
  · have h6 := Maps.size_put (k := keyI k) (h1.tidy keyed3) (.lit (.int .i64 n))
    rw [cntI_put h1.isMap, h6]
    rcases hh : Maps.has D (keyI k)
    · rw [if_neg (by simp), if_pos ⟨hk, rfl⟩]; omega
    · rw [if_pos rfl, if_neg (by simp)]; omega
  · by_cases e : j = k
    · subst e
      rw [Maps.has_put_same h1.isMap (by trivial)]
      exact ⟨fun _ => .inl rfl, fun _ => rfl⟩
    · rw [Maps.has_put_other (keyI_inj e), (h3 j hj).1]
      exact ⟨.inr, fun h => h.resolve_left e⟩
  · by_cases e : j = k
    · subst e
      rw [Maps.atKey_put_same h1.isMap (by trivial), hn]
    · rw [Maps.has_put_other (keyI_inj e)] at hh
      rw [Maps.atKey_put_other (keyI_inj e)]
      exact (h3 j hj).2 hh z
end
/-! ### mask -/
def orL : List Nat → Nat
  | [] => 0
  | i :: r => 2 ^ i ||| orL r
theorem orL_app : ∀ l m, orL (l ++ m) = orL l ||| orL m
  | [], m => by show orL m = 0 ||| _; rw [Nat.zero_or]
  | i :: l, m => by
    show 2 ^ i ||| orL (l ++ m) = 2 ^ i ||| orL l ||| orL m
    rw [orL_app l m, Nat.or_assoc]
theorem orL_bit (j : Nat) : ∀ l : List Nat, (orL l).testBit j = decide (j ∈ l)
  | [] => by simp [orL]
  | i :: r => by
    rw [orL, Nat.testBit_or, Nat.testBit_two_pow, orL_bit j r, Bool.eq_iff_iff, Bool.or_eq_true, decide_eq_true_eq, decide_eq_true_eq, decide_eq_true_eq, List.mem_cons]
    exact ⟨fun h => h.imp Eq.symm id, fun h => h.imp Eq.symm id⟩
theorem orL_lt : ∀ l : List Nat, (∀ i, i ∈ l → i < 12) → orL l < 4096
  | [], _ => by show 0 < 4096; omega
  | i :: r, h => by
    have h1 : 2 ^ i < 2 ^ 12 := Nat.pow_lt_pow_right (by omega) (h i (List.mem_cons_self ..))
    exact Nat.or_lt_two_pow (n := 12) h1 (orL_lt r fun j hj => h j (List.mem_cons_of_mem _ hj))
theorem orL_bits {s : Nat} (hs : s < 4096) : orL (bitsOf s) = s := by
  refine bits_eq (orL_lt _ fun i hi => (mem_bitsOf.1 hi).1) hs fun i hi => ?_
  rw [orL_bit, Bool.eq_iff_iff, decide_eq_true_eq, mem_bitsOf]
  exact ⟨fun h => h.2, fun h => ⟨hi, h⟩⟩
end Go.Proofs.YtonpemikodajdaaDoor
