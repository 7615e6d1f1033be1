/- The map of known choices: what is looked up is the best choice, what is stored keeps it so. -/
import Derived.Test.YtonpemikodajdaaDoorGd2
import Derived.Maps.OwnSet
import Derived.Maps.AppendAt
namespace Go.Proofs.YtonpemikodajdaaDoor
open Go.RowKit

def chD (p : Int × Int) : DataW Unit := .agg [.lit (.int .i64 p.1), .lit (.int .i64 p.2)]
def encL : List Value → Option (DataW Unit × List MemPlace)
  | [.int .i64 t, .int .i64 n] => some (chD (t, n), [])
  | _ => none
def encC : Value → Option (DataW Unit × List MemPlace)
  | .agg cs => encL cs.toList
  | _ => none
theorem encC_mk (t n : Int) : encC (.agg #[.int .i64 t, .int .i64 n]) = some (chD (t, n), []) := rfl
theorem encL_any {l : List Value} {d : DataW Unit} {ps : List MemPlace} (h : encL l = some (d, ps)) : ∃ t n, l = [.int .i64 t, .int .i64 n] ∧ d = chD (t, n) := by
  unfold encL at h
  split at h
  · injection h with h
    injection h with h
    exact ⟨_, _, rfl, h.symm⟩
  · cases h
theorem encC_any {v : Value} {d : DataW Unit} {ps : List MemPlace} (h : encC v = some (d, ps)) : ∃ t n, v = .agg #[.int .i64 t, .int .i64 n] ∧ d = chD (t, n) := by
  unfold encC at h
  split at h
  · rename_i cs
    obtain ⟨t, n, h1, h2⟩ := encL_any h
    exact ⟨t, n, by rw [← h1], h2⟩
  · cases h
theorem encC_inv {v : Value} {t n : Int} {ps : List MemPlace} (h : encC v = some (chD (t, n), ps)) : v = .agg #[.int .i64 t, .int .i64 n] := by
  obtain ⟨t', n', rfl, h2⟩ := encC_any h
  unfold chD at h2
  injection h2 with h2
  injection h2 with h3 h4
  injection h4 with h4 _
  injection h3 with h3
  injection h4 with h4
  injection h3 with _ h3
  injection h4 with _ h4
  have h3 : t = t' := h3
  have h4 : n = n' := h4
  rw [h3, h4]
def keyL (k : Nat) : Lit := .int .u64 (k : Int)
def cntK (D : DataW Unit) : Nat → Nat
  | 0 => 0
  | k + 1 => cntK D k + if Maps.has D (keyL k) = true then 1 else 0
theorem cntK_le (D : DataW Unit) : ∀ k, cntK D k ≤ k
  | 0 => Nat.le_refl _
  | k + 1 => by
    rw [cntK]
    have := cntK_le D k
    split <;> omega
/-- the map in block mb holds best choices -/
def KnM (w : World) (mb : Nat) (c : MCase) : Prop := ∃ D : DataW Unit, w.ownsMap Tryd.prog 97 encC mb (Maps.size D) D ∧ Maps.size D ≤ cntK D 4096 ∧ ∀ k, k < 4096 → Maps.has D (keyL k) = true → ∀ z, D.atKey (keyL k) z = chD (bestS c k)
theorem u97 : Tryd.prog.underlying 97 = some (.int .u64) := by kernel_rfl
theorem u92 : Tryd.prog.underlying 92 = some (.map 97 100) := by kernel_rfl
theorem z100 (w : World) : (zeroValue 100).run Tryd.prog w = .ok (.agg #[.int .i64 0, .int .i64 0]) w := by kernel_rfl
theorem keyed97 : Maps.Keyed Tryd.prog 97 := Maps.int_keyed u97
theorem keyL_wf {k : Nat} (h : k < 4096) : (Lit.int .u64 (k : Int)).wf = true := by
  simp [Lit.wf, IntKind.min, IntKind.max, IntKind.bits, IntKind.signed]
  omega
theorem keyOf97 {k : Nat} (h : k < 4096) : keyOf Tryd.prog 97 (.int .u64 (k : Int)) = some (keyL k) := Maps.keyOf_int_mk u97 (keyL_wf h)
theorem keyL_inj {a b : Nat} (h : a ≠ b) : keyL a ≠ keyL b := fun e => by
  unfold keyL at e
  injection e with _ e
  omega
theorem KnM.made (w : World) (c : MCase) : KnM (w.alloc (.map #[] 0)) w.heap.size c :=
  ⟨.map [], World.ownsMap_made w Tryd.prog 97 encC, Nat.zero_le _, fun k _ h => by cases h⟩
theorem KnM.lt {w : World} {mb : Nat} {c : MCase} (h : KnM w mb c) : mb < w.heap.size := by
  obtain ⟨D, h1, _⟩ := h
  exact h1.lt
theorem KnM.kept {w w' : World} {mb : Nat} {c : MCase} {row : Option Nat} (h : KnM w mb c) (hg : w.grownBy w' row) (hne : some mb ≠ row) : KnM w' mb c := by
  obtain ⟨D, h1, h2⟩ := h
  exact ⟨D, h1.kept hg hne, h2⟩
theorem KnM.alloc {w : World} {mb : Nat} {c : MCase} (h : KnM w mb c) (o : Obj) : KnM (w.alloc o) mb c := h.kept (World.grownBy_alloc w o none) (by simp)
theorem KnM.drew {w : World} {mb : Nat} {c : MCase} (h : KnM w mb c) : KnM w.drew mb c := h
theorem KnM.drewN {w : World} {mb : Nat} {c : MCase} (h : KnM w mb c) (n : Nat) : KnM (w.drewN n) mb c := h
theorem KnM.below {w w' : World} {mb B : Nat} {c : MCase} (h : KnM w mb c) (hb : Below B w w') (hB : mb < B) : KnM w' mb c := by
  obtain ⟨D, ⟨es, clock, e1, e2⟩, h2⟩ := h
  exact ⟨D, ⟨es, clock, (hb.block mb hB).trans e1, e2⟩, h2⟩
theorem KnM.far {w : World} {mb : Nat} {c : MCase} (h : KnM w mb c) {a : Addr} (ha : mb ≠ a.block) (u : Value) : KnM (w.setCell a u) mb c := by
  obtain ⟨D, h1, h2⟩ := h
  exact ⟨D, h1.setCell ha u, h2⟩
theorem tight {w : World} {mb n : Nat} {D : DataW Unit} (h : w.ownsMap Tryd.prog 97 encC mb n D) : w.ownsMap Tryd.prog 97 encC mb (Maps.size D) D := by
  obtain ⟨es, clock, h1, h2, h3, h4⟩ := h
  refine ⟨es, clock, h1, h2, ?_, h4⟩
  rw [h4, Maps.size_eq, length_read]
  exact Nat.le_refl _
section
variable {ops : Array Oper} {rest : List Oper} {o : Oper} {a : Act} {Q : Exit → Act → World → Prop}
set_option maxRecDepth 100000 in
theorem look_known (w : World) (hg : o.guard = none) (m x : Operand) (hop : o.op = Op.lookup 92 m x true) (mb : Nat) (c : MCase) (hm : a.eval m = .map (some mb)) (h : KnM w mb c) (k : Nat) (hk : k < 4096) (hx : a.eval x = .int .u64 (k : Int))
    (hK : ∀ (t n : Int) (is : Bool), (is = true → t = (bestS c k).1 ∧ n = (bestS c k).2) → wpList Tryd.prog ops Q rest (a.put o.dst (.tuple #[.agg #[.int .i64 t, .int .i64 n], .bool is])) w) : wpList Tryd.prog ops Q (o :: rest) a w := by
  obtain ⟨D, h1, h2, h3⟩ := h
  refine wpList_lookup_own_ok w hg m x 92 hop 97 100 keyed97 u92 encC (z100 w) (chD (0, 0)) [] (encC_mk 0 0) mb _ D hm h1 _ (keyL k) hx (keyOf97 hk) (fun v ps hv => ?_)
  rcases hh : Maps.has D (keyL k)
  · obtain ⟨t, n, rfl, _⟩ := encC_any hv
    exact hK t n false (fun h => by cases h)
  · rw [h3 k hk hh] at hv
    rw [encC_inv (t := (bestS c k).1) (n := (bestS c k).2) hv]
    exact hK _ _ true fun _ => ⟨rfl, rfl⟩
theorem cntK_put {D : DataW Unit} (hD : Maps.IsMap D) {k : Nat} (d : DataW Unit) : ∀ n, cntK (D.put (keyL k) d) n = cntK D n + if k < n ∧ Maps.has D (keyL k) = false then 1 else 0
  | 0 => by simp [cntK]
  | n + 1 => by
    rw [cntK, cntK, cntK_put hD d n]
    by_cases e : n = k
    · subst e
      rw [Maps.has_put_same hD (by trivial) d, if_pos rfl, if_neg (show ¬ (n < n ∧ _) by omega)]
      rcases hh : Maps.has D (keyL n)
      · rw [if_neg (by simp), if_pos ⟨by omega, rfl⟩]
      · rw [if_pos rfl, if_neg (by simp)]
    · rw [Maps.has_put_other (keyL_inj e) d]
      have : (if k < n + 1 ∧ Maps.has D (keyL k) = false then 1 else 0) = (if k < n ∧ Maps.has D (keyL k) = false then 1 else (0 : Nat)) := by
        by_cases h2 : Maps.has D (keyL k) = false
        · by_cases h1 : k < n
          · rw [if_pos (show k < n + 1 ∧ Maps.has D (keyL k) = false from ⟨by omega, h2⟩), if_pos (show k < n ∧ Maps.has D (keyL k) = false from ⟨h1, h2⟩)]
          · rw [if_neg (show ¬ (k < n + 1 ∧ Maps.has D (keyL k) = false) from fun h => by have := h.1; omega), if_neg (show ¬ (k < n ∧ Maps.has D (keyL k) = false) from fun h => h1 h.1)]
        · rw [if_neg (show ¬ (k < n + 1 ∧ Maps.has D (keyL k) = false) from fun h => h2 h.2), if_neg (show ¬ (k < n ∧ Maps.has D (keyL k) = false) from fun h => h2 h.2)]
      rw [this]
      omega
set_option maxRecDepth 100000 in
theorem put_known (w : World) (hg : o.guard = none) (m x v : Operand) (hop : o.op = Op.mapUpdate 92 m x v) (mb : Nat) (c : MCase) (hm : a.eval m = .map (some mb)) (h : KnM w mb c) (k : Nat) (hk : k < 4096) (hx : a.eval x = .int .u64 (k : Int))
    {t n : Int} (hv : a.eval v = .agg #[.int .i64 t, .int .i64 n]) (ht : t = (bestS c k).1) (hn : n = (bestS c k).2)
    (hK : ∀ w', KnM w' mb c → w.grownBy w' (some mb) → wpList Tryd.prog ops Q rest (a.put o.dst undef) w') : wpList Tryd.prog ops Q (o :: rest) a w := by
  obtain ⟨D, h1, h2, h3⟩ := h
  have hc := cntK_le D 4096
  refine wpList_mapUpdate_own w hg m x v 92 hop 97 100 keyed97 u92 encC mb _ D hm h1 (by unfold maxLen; omega) _ _ (keyL k) hx hv (keyOf97 hk) _ _ (encC_mk t n) (fun w' h4 h5 => hK w' ⟨_, tight h4, ?_, fun j hj hh z => ?_⟩ h5)
  · have h6 := Maps.size_put (k := keyL k) (h1.tidy keyed97) (chD (t, n))
    rw [cntK_put h1.isMap, h6]
    rcases hh : Maps.has D (keyL k)
    · rw [if_neg (by simp), if_pos ⟨hk, rfl⟩]; omega
    · rw [if_pos rfl, if_neg (by simp)]; omega
  · by_cases e : j = k
    · subst e
      rw [Maps.atKey_put_same h1.isMap (by trivial), ht, hn]
    · rw [Maps.has_put_other (keyL_inj e)] at hh
      rw [Maps.atKey_put_other (keyL_inj e)]
      exact h3 j hj hh z
end
end Go.Proofs.YtonpemikodajdaaDoor
