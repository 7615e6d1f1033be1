/- Plain, walk laws, walk: pairs of faults in a row of the call's own; what Doubles computes; Doubles: the reference's (printed by gen_dz8.py out of Sy). -/
import Derived.Test.YtegclodchhcbaaaEx
import Derived.Laws.StructEq
import Derived.Laws.Small
import Derived.Laws.Tables
import Derived.Laws.Cover2
import Derived.Deep.AppendLies
namespace Go.Proofs.Ytegclodchhcbaaa
open Go.RowKit

theorem rowL_snoc {m size : Nat} {f f' : Nat → Nat → Value} (hs : 0 < size) (h : ∀ i j, i < m → j < size → f' i j = f i j) : rowL (m + 1) size f' = rowL m size f ++ (List.range size).map (f' m) := by
  apply List.ext_getElem?
  intro q
  by_cases hq : q < m * size
  · rw [List.getElem?_append_left (by rw [rowL_len]; exact hq), rowL_at hq, rowL_at (by rw [Nat.add_mul]; omega), h _ _ (by rw [Nat.div_lt_iff_lt_mul hs]; exact hq) (Nat.mod_lt _ hs)]
  · rw [List.getElem?_append_right (by rw [rowL_len]; omega), rowL_len]
    by_cases hq2 : q < (m + 1) * size
    · have h1 : (m + 1) * size = m * size + size := by rw [Nat.add_mul, Nat.one_mul]
      obtain ⟨d, rfl⟩ : ∃ d, q = m * size + d := ⟨q - m * size, by omega⟩
      have hd : d < size := by omega
      have e1 : (m * size + d) / size = m := by rw [Nat.mul_comm, Nat.mul_add_div hs, Nat.div_eq_of_lt hd, Nat.add_zero]
      have e2 : (m * size + d) % size = d := by rw [Nat.mul_comm, Nat.mul_add_mod, Nat.mod_eq_of_lt hd]
      rw [rowL_at hq2, e1, e2, Nat.add_sub_cancel_left, List.getElem?_map, List.getElem?_range hd]
      rfl
    · have h1 : (m + 1) * size = m * size + size := by rw [Nat.add_mul, Nat.one_mul]
      rw [List.getElem?_eq_none (by rw [rowL_len]; omega), List.getElem?_eq_none (by simp; omega)]
def dPair : MFault × MFault := (dFault, dFault)
def pairCell (l : List (MFault × MFault)) (i j : Nat) : Value := if j = 0 then .int .i64 (l.getD i dPair).1.kind else if j = 1 then .int .i64 (l.getD i dPair).1.number else if j = 2 then .int .i64 (l.getD i dPair).2.kind else .int .i64 (l.getD i dPair).2.number
/-- pairs of faults in a row of the call's own -/
def OutD (w : World) (base : Nat) (v : Value) (L : List (MFault × MFault)) : Prop := w.ownsRow base 79 4 v L.length (rowL L.length 4 (pairCell L))
def PairsA (w : World) (B : Nat) (A : Option Addr) (l : List (MFault × MFault)) : Prop := l.length ≤ maxLen ∧ SlA w B 4 A l.length (pairCell l)
theorem OutD.reads {w : World} {base : Nat} {v : Value} {L : List (MFault × MFault)} (h : OutD w base v L) (hl : L.length ≤ maxLen) : ∃ A c, v = .slice A L.length c ∧ L.length ≤ c ∧ PairsA w w.heap.size A L := by
  obtain ⟨A, c, hv, hc, hr⟩ := RowO.of_own h
  exact ⟨A, c, hv, hc, hl, hr.sl⟩
theorem pairCells_app (L : List (MFault × MFault)) (p : MFault × MFault) : rowL L.length 4 (pairCell L) ++ [.int .i64 p.1.kind, .int .i64 p.1.number, .int .i64 p.2.kind, .int .i64 p.2.number] = rowL (L ++ [p]).length 4 (pairCell (L ++ [p])) := by
  have hl : (L ++ [p]).length = L.length + 1 := by simp
  have e : (L ++ [p]).getD L.length dPair = p := by rw [List.getD_eq_getElem?_getD, List.getElem?_append_right (Nat.le_refl _)]; simp
  rw [hl, rowL_snoc (f := pairCell L) (by decide) fun i j hi _ => by
    unfold pairCell
    rw [show (L ++ [p]).getD i dPair = L.getD i dPair by rw [List.getD_eq_getElem?_getD, List.getElem?_append_left hi, List.getD_eq_getElem?_getD]]]
  congr 1
  unfold pairCell
  rw [e]
  rfl
theorem info_pair : (Try.prog.info? 79).map (fun i => (i.zero, i.size, i.bytes)) = some (some (.agg #[.int .i64 0, .int .i64 0, .int .i64 0, .int .i64 0]), 4, 32) := by kernel_rfl
theorem und_pairs : Try.prog.underlying 76 = some (.slice 79) := by kernel_rfl
section
variable {ops : Array Oper} {rest : List Oper} {o : Oper} {a : Act} {Q : Exit → Act → World → Prop}
set_option maxRecDepth 100000 in
theorem app_pairIn {F : Fence} {n : Nat} (w : World) (hg : o.guard = none) (s x : Operand) (ho : o.op = .call { callee := .builtin .append, args := #[s, x], argTypes := #[76, 76] }) (base : Nat) (v : Value) (L : List (MFault × MFault))
    (hs : a.eval s = v) (hown : OutD w base v L) (xb : Nat) (p : MFault × MFault) (hx : a.eval x = .slice (some ⟨xb, 0, none⟩) 1 1) (hh : w.heap[xb]? = some (.cells #[.int .i64 p.1.kind, .int .i64 p.1.number, .int .i64 p.2.kind, .int .i64 p.2.number] 79 (0, 0))) (hl : L.length ≤ 100000) (hbase : base ≤ w.heap.size)
    (hK : ∀ v' w', OutD w' base v' (L ++ [p]) → w.grownBy w' v.ownBlock → wpListIn F n Try.prog ops Q rest (a.put o.dst v') w') : wpListIn F n Try.prog ops Q (o :: rest) a w := by
  obtain ⟨i0, hi, hz0, hz1, hz2⟩ := info_parts info_pair
  refine wpListIn_append_own w hg s x 76 ho base 79 i0 _ 4 32 und_pairs hi hz0 hz1 hz2 rfl (by decide) v L.length _ hs hown ⟨xb, 0, none⟩ 1 1 [.int .i64 p.1.kind, .int .i64 p.1.number, .int .i64 p.2.kind, .int .i64 p.2.number] hx rfl (fun j u hj => ?_) (fun u hu => ?_) (by unfold maxLen; omega) (by omega) hbase (fun v' w' h1 h2 _ => hK v' w' ?_ h2)
  · rw [add_none0, Nat.zero_add, cell_of_row w xb j _ 79 _ hh]
    rw [List.getElem?_toArray]
    exact hj
  · simp at hu
    rcases hu with rfl | rfl | rfl | rfl <;> rfl
  · rw [pairCells_app] at h1
    unfold OutD
    rw [List.length_append] at h1 ⊢
    exact h1
set_option maxRecDepth 100000 in
theorem app_pair (w : World) (hg : o.guard = none) (s x : Operand) (ho : o.op = .call { callee := .builtin .append, args := #[s, x], argTypes := #[76, 76] }) (base : Nat) (v : Value) (L : List (MFault × MFault))
    (hs : a.eval s = v) (hown : OutD w base v L) (xb : Nat) (p : MFault × MFault) (hx : a.eval x = .slice (some ⟨xb, 0, none⟩) 1 1) (hh : w.heap[xb]? = some (.cells #[.int .i64 p.1.kind, .int .i64 p.1.number, .int .i64 p.2.kind, .int .i64 p.2.number] 79 (0, 0))) (hl : L.length ≤ 100000) (hbase : base ≤ w.heap.size)
    (hK : ∀ v' w', OutD w' base v' (L ++ [p]) → w.grownBy w' v.ownBlock → wpList Try.prog ops Q rest (a.put o.dst v') w') : wpList Try.prog ops Q (o :: rest) a w := by
  obtain ⟨i0, hi, hz0, hz1, hz2⟩ := info_parts info_pair
  refine wpList_append_own w hg s x 76 ho base 79 i0 _ 4 32 und_pairs hi hz0 hz1 hz2 rfl (by decide) v L.length _ hs hown ⟨xb, 0, none⟩ 1 1 [.int .i64 p.1.kind, .int .i64 p.1.number, .int .i64 p.2.kind, .int .i64 p.2.number] hx rfl (fun j u hj => ?_) (fun u hu => ?_) (by unfold maxLen; omega) (by omega) hbase (fun v' w' h1 h2 _ => hK v' w' ?_ h2)
  · rw [add_none0, Nat.zero_add, cell_of_row w xb j _ 79 _ hh]
    rw [List.getElem?_toArray]
    exact hj
  · simp at hu
    rcases hu with rfl | rfl | rfl | rfl <;> rfl
  · rw [pairCells_app] at h1
    unfold OutD
    rw [List.length_append] at h1 ⊢
    exact h1
end
/-- the pairs of x with those of the first k behind place i that do harm together -/
noncomputable def rowD (g : MGrid) (level : Int) (M : List MFault) (i : Nat) : Nat → List (MFault × MFault)
  | 0 => []
  | k + 1 => rowD g level M i k ++ if harmB g [M.getD i dFault, M.getD (i + 1 + k) dFault] level = true then [(M.getD i dFault, M.getD (i + 1 + k) dFault)] else []
noncomputable def doubL (g : MGrid) (level : Int) (M : List MFault) : Nat → List (MFault × MFault)
  | 0 => []
  | i + 1 => doubL g level M i ++ rowD g level M i (M.length - (i + 1))
theorem rowD_len (g : MGrid) (level : Int) (M : List MFault) (i : Nat) : ∀ k, (rowD g level M i k).length ≤ k
  | 0 => Nat.le_refl _
  | k + 1 => by
    have := rowD_len g level M i k
    rw [rowD, List.length_append]
    split
    · simp; omega
    · simp; omega
theorem doubL_len (g : MGrid) (level : Int) (M : List MFault) : ∀ i, (doubL g level M i).length ≤ i * M.length
  | 0 => by simp [doubL]
  | i + 1 => by
    have h1 := doubL_len g level M i
    have h2 := rowD_len g level M i (M.length - (i + 1))
    rw [doubL, List.length_append, Nat.add_mul]
    omega
/-- what Doubles answers -/
def DoubP (g : MGrid) (level : Int) (w : World) (e : Ending) (w' : World) : Prop :=
  Below w.heap.size w w' ∧ ((levelG g level ≠ 0 ∧ e = .returned (.tuple #[.slice none 0 0, .int .i64 (levelG g level)])) ∨ (levelG g level = 0 ∧ ∃ (n : Nat) (v : Value), GridOk g n ∧ e = .returned (.tuple #[v, .int .i64 0]) ∧ OutD w' w.heap.size v (doubL g level (collH g level false (allF g n)) (collH g level false (allF g n)).length)))
theorem faults_two (w : World) (x y : MFault) : FaultsA (w.alloc (.cells #[.int .i64 x.kind, .int .i64 x.number, .int .i64 y.kind, .int .i64 y.number] 41)) (w.alloc (.cells #[.int .i64 x.kind, .int .i64 x.number, .int .i64 y.kind, .int .i64 y.number] 41)).heap.size (some ⟨w.heap.size, 0, none⟩) [x, y] := by
  have hh := heap_alloc_new w (.cells #[.int .i64 x.kind, .int .i64 x.number, .int .i64 y.kind, .int .i64 y.number] 41)
  refine ⟨by show 2 ≤ maxLen; decide, fun _ => ⟨w.heap.size, 0, rfl, by simp, fun i j hi hj => ?_⟩⟩
  simp only [Nat.zero_add]
  rw [cell_of_row _ _ (i * 2 + j) _ _ _ hh]
  have hi' : i < 2 := hi
  rcases (show i = 0 ∨ i = 1 by omega) with rfl | rfl <;> rcases (show j = 0 ∨ j = 1 by omega) with rfl | rfl <;> rfl
set_option maxRecDepth 100000 in
theorem eq41 (d : Nat) (a b : Int) (w : World) : (Op.equalIn (d + 2) 41 (.agg #[.int .i64 a, .int .i64 b]) (.agg #[.int .i64 a, .int .i64 b])).run Try.prog w = .ok true w := by
  have hS : Try.prog.underlying 41 = some (.struct (Try.prog.fieldsOf 41)) := by kernel_rfl
  have hp : Try.prog.stoodInHeld 41 = false := by kernel_rfl
  have u3 := Try.underlying3
  have a3 := Try.isAgg3
  have z3 := Try.sizeOf3
  rw [show d + 2 = (d + 1) + 1 from rfl, run_equalIn_agg w (d + 1) 41 _ _ hS hp]
  simp only [Program.fieldsOf, Try.underlying41]
  go_simp
set_option maxRecDepth 100000 in
theorem eq79' (n : Nat) (a b c d : Int) (w : World) : (Op.equalIn (n + 3) 79 (.agg #[.int .i64 a, .int .i64 b, .int .i64 c, .int .i64 d]) (.agg #[.int .i64 a, .int .i64 b, .int .i64 c, .int .i64 d])).run Try.prog w = .ok true w := by
  have a3 := Try.isAgg41
  have z3 := Try.sizeOf41
  have e1 := eq41 n a b
  have e2 := eq41 n c d
  rw [show n + 3 = (n + 2) + 1 from rfl, Op.equalIn]
  simp only [Sem.run_bind, run_underlying Try.underlying79, Result.andThen_ok]
  simp only [Std.Legacy.Range.forIn_eq_forIn_range', Std.Legacy.Range.size, Nat.sub_zero, Nat.add_sub_cancel, Nat.div_one, List.range'_succ, List.range'_zero, List.forIn_cons, List.forIn_nil]
  go_simp
set_option maxRecDepth 100000 in
theorem eq79 (a b c d : Int) (w : World) : (Op.equalIn 10000 79 (.agg #[.int .i64 a, .int .i64 b, .int .i64 c, .int .i64 d]) (.agg #[.int .i64 a, .int .i64 b, .int .i64 c, .int .i64 d])).run Try.prog w = .ok true w := eq79' 9997 a b c d w

theorem take_snoc {L : List MFault} {k : Nat} (hk : k < L.length) : L.take (k + 1) = L.take k ++ [L.getD k dFault] := by
  rw [List.take_add_one, List.getElem?_eq_getElem hk, List.getD_eq_getElem?_getD, List.getElem?_eq_getElem hk]
  rfl
set_option maxRecDepth 100000 in
theorem step_app_pair {ops : Array Oper} {o : Oper} {a : Act} {K : Act → World → Prop} {Q : Exit → Act → World → Prop} {E : Prop} (w : World) (hg : o.guard = none) (s x : Operand) (ho : o.op = .call { callee := .builtin .append, args := #[s, x], argTypes := #[76, 76] }) (base : Nat) (v : Value) (L : List (MFault × MFault)) (p : MFault × MFault)
    (hs : a.eval s = v) (hown : OutD w base v L) (xb : Nat) (hx : a.eval x = .slice (some ⟨xb, 0, none⟩) 1 1) (hh : w.heap[xb]? = some (.cells #[.int .i64 p.1.kind, .int .i64 p.1.number, .int .i64 p.2.kind, .int .i64 p.2.number] 79 (0, 0))) (hl : L.length ≤ 100000) (hbase : base ≤ w.heap.size)
    (hK : ∀ A c w', OutD w' base (.slice A (L.length + 1) c) (L ++ [p]) → Below base w w' → K (a.put o.dst (.slice A (L.length + 1) c)) w') :
    if Region.wanted o (yielded ops a.tmps) = true then Oper.wp Try.prog o a w K Q else E := by
  obtain ⟨i0, hi, hz0, hz1, hz2⟩ := info_parts info_pair
  have hlt := own_block_lt hown
  refine step_append_lies w hg s x 76 ho base 79 i0 _ 4 32 und_pairs hi hz0 hz1 hz2 rfl (by decide) v L.length _ hs hown ⟨xb, 0, none⟩ 1 1 [.int .i64 p.1.kind, .int .i64 p.1.number, .int .i64 p.2.kind, .int .i64 p.2.number] hx rfl (fun j u hj => ?_) (fun u hu => ?_) (by decide) (by unfold maxLen; omega) (by omega) hbase w.heap.size rfl (fun g c w' e1 e2 e3 e4 => ?_)
  · rw [add_none0, Nat.zero_add, cell_of_row w xb j _ 79 _ hh]
    rw [List.getElem?_toArray]
    exact hj
  · simp at hu
    rcases hu with rfl | rfl | rfl | rfl <;> rfl
  · rw [pairCells_app] at e1
    exact hK _ c w' (by unfold OutD; rw [List.length_append] at e1 ⊢; exact e1) ((Below.refl _ _).grown e2 hbase (fun k hk => (hlt k hk).1))
set_option maxRecDepth 100000 in
set_option maxHeartbeats 8000000 in
theorem rDoubles_any (g : MGrid) (A1 A2 A3 : Option Addr) (c1 c2 c3 : Nat) (level : Int) (w : World) (h : GridA w w.heap.size g A1 A2 A3) :
    Calls Try.prog 52 #[.agg (gridC g A1 A2 A3 c1 c2 c3), .int .i64 level] w (DoubP g level w) := by
  obtain ⟨w1, hw1⟩ : ∃ w1, w.alloc (.cells #[.int .i64 g.nodes, .slice A1 g.lines.length c1, .slice A2 g.srcs.length c2, .slice A3 g.users.length c3] 26) = w1 := ⟨_, rfl⟩
  have hb1 : Below w.heap.size w w1 := by rw [← hw1]; exact (Below.refl _ _).alloc (Nat.le_refl _) _
  have hs1 : w1.heap.size = w.heap.size + 1 := by rw [← hw1]; simp
  have hx1 : w1.heap[w.heap.size]? = some (.cells #[.int .i64 g.nodes, .slice A1 g.lines.length c1, .slice A2 g.srcs.length c2, .slice A3 g.users.length c3] 26 (0, 0)) := by rw [← hw1]; exact heap_alloc_new w _
  have HX : Hid (∀ W, Below w1.heap.size w1 W → Below w.heap.size w W ∧ W.cell? ⟨w.heap.size, 0, none⟩ = some (.int .i64 g.nodes) ∧ W.cell? ⟨w.heap.size, 1, none⟩ = some (.slice A1 g.lines.length c1) ∧ W.cell? ⟨w.heap.size, 2, none⟩ = some (.slice A2 g.srcs.length c2) ∧ W.cell? ⟨w.heap.size, 3, none⟩ = some (.slice A3 g.users.length c3)) := fun W hW => by
    have h1 := (hW.block w.heap.size (by omega)).trans hx1
    exact ⟨hb1.trans (hW.mono (by omega)), cell_of_row W _ 0 _ _ _ h1, cell_of_row W _ 1 _ _ _ h1, cell_of_row W _ 2 _ _ _ h1, cell_of_row W _ 3 _ _ _ h1⟩
  have HG : Hid (∀ W, Below w.heap.size w W → GridA W W.heap.size g A1 A2 A3) := fun W hW => (h.keep hW).more hW.size
  obtain ⟨_, p0, p1, p2, p3⟩ := HX.out w1 (Below.refl _ _)
  obtain ⟨E, hE⟩ : ∃ E, levelG g level = E := ⟨_, rfl⟩
  have HE := Lib.hid hE
  have HCK : Hid (∀ W, Below w.heap.size w W → Calls Try.prog 82 #[.agg (gridC g A1 A2 A3 c1 c2 c3), .int .i64 level] W fun e w' => e = .returned (.int .i64 E) ∧ Below W.heap.size W w') := fun W hW => by have := leveled_any g A1 A2 A3 c1 c2 c3 level W (HG.out W hW); rw [hE] at this; exact this
  have HB0 : Hid (Below w1.heap.size w1 w1) := Below.refl _ _
  have HS1 := Lib.hid hs1
  unfold gridC at HCK ⊢
  clear h hb1 hx1 hs1
  by_cases hz : E = 0
  · subst hz
    obtain ⟨n, hgo⟩ := checkG_ok (levelG_ok hE).1
    have hnl := hgo.nl
    have hns := hgo.ns
    have hfew := hgo.few
    have HFL : Hid (∀ W, Below w1.heap.size w1 W → Calls Try.prog 83 #[.agg (gridC g A1 A2 A3 c1 c2 c3)] W fun e w' => ∃ v, e = .returned v ∧ OutF w' W.heap.size v (allF g n) ∧ Below W.heap.size W w') := fun W _ => rFaults_any g A1 A2 A3 c1 c2 c3 W n hgo.nodes (by omega) (by omega) (by omega)
    have HHM : Hid (∀ W A cap (f : MFault), Below w1.heap.size w1 W → FaultsA W W.heap.size A [f] → Calls Try.prog 84 #[.agg (gridC g A1 A2 A3 c1 c2 c3), .slice A 1 cap, .int .i64 level] W fun e w' => e = .returned (.bool (harmB g [f] level)) ∧ Below W.heap.size W w') := fun W A cap f hW hf => rharm_any g A1 A2 A3 c1 c2 c3 A cap [f] level W (HG.out W (HX.out W hW).1) hf hgo rfl
    have hll : (allF g n).length ≤ 70 := by
      unfold allF
      simp only [List.length_append, kindL_len]
      omega
    have HLL := Lib.hid hll
    have HGO := Lib.hid hgo
    unfold gridC at HFL HHM
    clear hE hgo hll
    obtain ⟨L, hL⟩ : ∃ L, allF g n = L := ⟨_, rfl⟩
    have HLE := Lib.hid hL
    rw [hL] at HFL HLL
    clear hL
    go_enter Try.func52, Try.ntmps52
    go_wp2_with (first
      | (go_at_call 82; refine (HCK.out _ (HX.out _ (Below.refl _ _)).1).mono ?_; rintro e w2 ⟨rfl, hb2⟩; have HB2 : Below w1.heap.size w1 w2 := hb2; clear hb2 p0 p1 p2 p3; obtain ⟨_, p0, p1, p2, p3⟩ := HX.out w2 HB2)
      | (go_at_call 83; refine (HFL.out _ HB2).mono ?_; rintro e w3 ⟨v3, rfl, ho3, hb3⟩; have HO3 := Lib.hid ho3; have HB3 : Hid (Below w1.heap.size w1 w3) := bel_next HB2 hb3; clear ho3 hb3 p0 p1 p2 p3)
      | fail)
    obtain ⟨Af, cf, rfl, hcf, hf3⟩ := HO3.out.reads (by have := HLL.out; unfold maxLen; omega)
    have HCF := Lib.hid hcf
    have HF3 := Lib.hid hf3
    have HR0 : Hid (OutF w3 w3.heap.size (.slice none 0 0) (collH g level false (L.take 0))) := ⟨rowL_len _ _ _, .inl ⟨rfl, rfl⟩⟩
    have HC0 : Hid (Below w3.heap.size w3 w3) := Below.refl _ _
    clear HO3 HFL HCK HB2 HB0 hcf hf3
    go_loopw [9, 7] (fun vi vo wr => ∃ (k : Nat) (V : Value), k ≤ L.length ∧ vi = .int .i64 k ∧ V = vo ∧ Hid (OutF wr w3.heap.size V (collH g level false (L.take k))) ∧ Hid (Below w3.heap.size w3 wr)) (fun vi _ _ => L.length - (intOf vi).toNat)
    case atStart => exact ⟨0, _, Nat.zero_le _, rfl, rfl, HR0.out, HC0.out⟩
    case round =>
      clear HR0 HC0
      obtain ⟨k, V, hk, rfl, rfl, HV, HB⟩ := hrel
      rename World => wr
      have HBr : Hid (Below w1.heap.size w1 wr) := bel_next HB3.out HB.out
      obtain ⟨_, p0, p1, p2, p3⟩ := HX.out wr HBr.out
      by_cases hlt : k < L.length
      · have HLT := Lib.hid hlt
        obtain ⟨fb, off, hA, hfb, hfo, hc0, hc1⟩ := fault_one HF3.out hlt
        subst hA
        obtain ⟨f, hf⟩ : ∃ f, L.getD k dFault = f := ⟨_, rfl⟩
        rw [hf] at hfo hc0 hc1
        have HFO : Hid (∀ W, Below w3.heap.size w3 W → FaultsA W W.heap.size (some ⟨fb, off + k * 2, none⟩) [f]) := fun W hW => (hfo.keep hW).more hW.size
        have HFC : Hid (∀ W, Below w3.heap.size w3 W → W.cell? ⟨fb, off + k * 2, none⟩ = some (.int .i64 f.kind) ∧ W.cell? ⟨fb, off + k * 2 + 1, none⟩ = some (.int .i64 f.number)) := fun W hW => ⟨(hW.cell (show (⟨fb, off + k * 2, none⟩ : Addr).block < w3.heap.size from hfb)).trans hc0, (hW.cell (show (⟨fb, off + k * 2 + 1, none⟩ : Addr).block < w3.heap.size from hfb)).trans hc1⟩
        have HST : Hid (collH g level false (L.take (k + 1)) = if harmB g [f] level = true then collH g level false (L.take k) else collH g level false (L.take k) ++ [f]) := by
          show _ = _
          rw [take_snoc hlt, hf]
          split
          · rename_i hh; exact collH_miss (y := false) hh
          · rename_i hh; exact collH_hit (y := false) (by simpa using hh)
        have HLN : Hid ((collH g level false (L.take k)).length ≤ 1000) := by have := collH_len g level false (L.take k); have := HLL.out; have := List.length_take_le k L; show _ ≤ _; omega
        have hcv := HCF.out
        have q1 : (0 : Int) ≤ (k : Int) := by omega
        have q2 : (k : Int) ≤ (cf : Int) := by omega
        have q3 : (0 : Int) ≤ (k : Int) + 1 := by omega
        have q4 : (k : Int) + 1 ≤ (L.length : Int) := by omega
        have q5 : (L.length : Int) ≤ (cf : Int) := by omega
        have q6 : ((k : Int) + 1).toNat = k + 1 := by omega
        have q7 : (k : Int) ≤ (k : Int) + 1 := by omega
        have q8 : (k : Int) + 1 ≤ (cf : Int) := by omega
        have q9 : k + 1 - k = 1 := by omega
        have q10 : ¬ cf = k := by omega
        have e1 : IntKind.i64.wrap ((k : Int) + 1) = (k : Int) + 1 := IntWalk.i64_in _ (by have := HLL.out; omega)
        obtain ⟨hb, hhb⟩ : ∃ hb, harmB g [f] level = hb := ⟨_, rfl⟩
        have HH : Hid (∀ W cp, Below w3.heap.size w3 W → Calls Try.prog 84 #[.agg #[.int .i64 g.nodes, .slice A1 g.lines.length c1, .slice A2 g.srcs.length c2, .slice A3 g.users.length c3], .slice (some ⟨fb, off + k * 2, none⟩) 1 cp, .int .i64 level] W fun e w' => e = .returned (.bool hb) ∧ Below W.heap.size W w') := fun W cp hW => by
          have := HHM.out W _ cp f (bel_next HB3.out hW) (HFO.out W hW)
          rw [hhb] at this
          exact this
        rw [hhb] at HST
        clear hhb hf hfo hc0 hc1
        generalize collH g level false (L.take k) = Q at *
        have HBD : Below w3.heap.size w3 wr.drew := HB.out.drew
        have HBX : Below w1.heap.size w1 wr.drew := HBr.out.drew
        go_upto_region 9 with fail
        cases hb
        · have HS2 : Hid (collH g level false (L.take (k + 1)) = Q ++ [f]) := HST.out
          go_region_held3 (fun W => W.cell? ⟨w.heap.size, 0, none⟩ = some (.int .i64 g.nodes) ∧ W.cell? ⟨w.heap.size, 1, none⟩ = some (.slice A1 g.lines.length c1) ∧ W.cell? ⟨w.heap.size, 2, none⟩ = some (.slice A2 g.srcs.length c2) ∧ W.cell? ⟨w.heap.size, 3, none⟩ = some (.slice A3 g.users.length c3)) (first | exact (HX.out _ HBX).2 | exact (HX.out _ HB8x).2 | fail) ((first
            | (go_at_call 84; (try rw [if_neg q10]); (with_reducible refine (HH.out _ _ HBD).mono ?_); rintro e w8 ⟨rfl, hb8⟩; have HB8 : Hid (Below w3.heap.size w3 w8) := bel_next HBD hb8; have HB8x : Below w1.heap.size w1 w8 := bel_next HBX hb8; have HV8 : Hid (OutF w8 w3.heap.size V Q) := own_below HV.out (bel_next (Below.refl wr.heap.size wr).drew hb8) (fun b hb => (own_block_lt HV.out b hb).2); clear hb8)
            | fail))
          clear p0 p1 p2 p3
          obtain ⟨d0, d1⟩ := HFC.out w8 HB8.out
          have hbs := HB8.out.size
          have HA : Hid (OutF (w8.alloc (.cells #[.int .i64 f.kind, .int .i64 f.number] 41)) w3.heap.size V Q) := own_below HV8.out ((Below.refl _ _).alloc (Nat.le_refl _) _) (fun b hb => (own_block_lt HV8.out b hb).2)
          go_wp2_with (at_builtin; refine app_fault _ rfl _ _ rfl w3.heap.size V Q rfl HA.out w8.heap.size f rfl (heap_alloc_new w8 _) HLN.out (by simp; omega) ?_; intro v7 w9 hO9 hg9; have HO9 := Lib.hid hO9; have HB9 : Hid (Below w3.heap.size w3 w9) := (HB8.out.alloc HB8.out.size _).grown hg9 (by simp; omega) (fun b hb => (own_block_lt HV8.out b hb).1); clear hO9 hg9)
          go_roundw
          case rel => exact ⟨k + 1, _, HLT.out, by go_num, rfl, by rw [HS2.out]; exact HO9.out, HB9.out⟩
          case measure => simp [intOf]; have := HLT.out; omega
        · have HS2 : Hid (collH g level false (L.take (k + 1)) = Q) := HST.out
          go_region_held3 (fun W => W.cell? ⟨w.heap.size, 0, none⟩ = some (.int .i64 g.nodes) ∧ W.cell? ⟨w.heap.size, 1, none⟩ = some (.slice A1 g.lines.length c1) ∧ W.cell? ⟨w.heap.size, 2, none⟩ = some (.slice A2 g.srcs.length c2) ∧ W.cell? ⟨w.heap.size, 3, none⟩ = some (.slice A3 g.users.length c3)) (first | exact (HX.out _ HBX).2 | exact (HX.out _ HB8x).2 | fail) ((first
            | (go_at_call 84; (try rw [if_neg q10]); (with_reducible refine (HH.out _ _ HBD).mono ?_); rintro e w8 ⟨rfl, hb8⟩; have HB8 : Hid (Below w3.heap.size w3 w8) := bel_next HBD hb8; have HB8x : Below w1.heap.size w1 w8 := bel_next HBX hb8; have HV8 : Hid (OutF w8 w3.heap.size V Q) := own_below HV.out (bel_next (Below.refl wr.heap.size wr).drew hb8) (fun b hb => (own_block_lt HV.out b hb).2); clear hb8)
            | fail))
          clear p0 p1 p2 p3
          go_wp2_with fail
          go_roundw
          case rel => exact ⟨k + 1, _, HLT.out, by go_num, rfl, by rw [HS2.out]; exact HV8.out, HB8.out⟩
          case measure => simp [intOf]; have := HLT.out; omega
      · obtain rfl : k = L.length := by omega
        rw [List.take_length] at HV
        have hml : (collH g level false L).length ≤ 70 := by
          have h1 := collH_len g level false L
          have := HLL.out
          omega
        obtain ⟨M, hM⟩ : ∃ M, collH g level false L = M := ⟨_, rfl⟩
        rw [hM] at hml HV
        have HM := Lib.hid hM
        have HML := Lib.hid hml
        obtain ⟨A, ca, rfl, hca, hfa⟩ := HV.out.reads (by unfold maxLen; omega)
        have HXD : Hid (∀ W, Below wr.heap.size wr W → FaultsA W W.heap.size A M) := fun W hW => (hfa.keep hW).more hW.size
        have HXG : Hid (∀ W, Below wr.heap.size wr W → Below w1.heap.size w1 W) := fun W hW => HBr.out.trans (hW.mono HBr.out.size)
        have HH2 : Hid (∀ W x y b cap, harmB g [x, y] level = b → Below w1.heap.size w1 W → Calls Try.prog 84 #[.agg #[.int .i64 g.nodes, .slice A1 g.lines.length c1, .slice A2 g.srcs.length c2, .slice A3 g.users.length c3], .slice (some ⟨W.heap.size, 0, none⟩) 2 cap, .int .i64 level] (W.alloc (.cells #[.int .i64 x.kind, .int .i64 x.number, .int .i64 y.kind, .int .i64 y.number] 41)) fun e w' => e = .returned (.bool b) ∧ Below (W.heap.size + 1) (W.alloc (.cells #[.int .i64 x.kind, .int .i64 x.number, .int .i64 y.kind, .int .i64 y.number] 41)) w') := fun W x y b cap hb hW => by
          have := rharm_any g A1 A2 A3 c1 c2 c3 (some ⟨W.heap.size, 0, none⟩) cap [x, y] level (W.alloc (.cells #[.int .i64 x.kind, .int .i64 x.number, .int .i64 y.kind, .int .i64 y.number] 41)) (HG.out _ (HX.out _ (hW.alloc hW.size _)).1) (faults_two W x y) HGO.out hb
          rwa [World.size_alloc] at this
        have HR0 : Hid (OutD wr wr.heap.size (.slice none 0 0) (doubL g level M 0)) := ⟨rowL_len _ _ _, .inl ⟨rfl, rfl⟩⟩
        have HC0 : Hid (Below wr.heap.size wr wr) := Below.refl _ _
        have hbr := HBr.out.size
        clear HV HB hfa hM HHM hk hlt p0 p1 p2 p3
        go_wp2_with fail
        go_loopw [10, 11] (fun vo vi wz => ∃ (i : Nat) (V : Value), i ≤ M.length ∧ vi = .int .i64 i ∧ V = vo ∧ Hid (OutD wz wr.heap.size V (doubL g level M i)) ∧ Hid (Below wr.heap.size wr wz)) (fun _ vi _ => M.length - (intOf vi).toNat)
        case atStart => exact ⟨0, _, Nat.zero_le _, rfl, rfl, HR0.out, HC0.out⟩
        case round =>
          clear HR0 HC0
          obtain ⟨i, V, hi, rfl, rfl, HV, HB⟩ := hrel
          rename World => wz
          by_cases hlt : i < M.length
          · have HLT := Lib.hid hlt
            have hi1 : (i : Int) + 1 ≤ 70 := by omega
            have HV4 : Hid (OutD wz wr.heap.size V (doubL g level M i ++ rowD g level M i 0)) := by
              show OutD _ _ _ _
              rw [show rowD g level M i 0 = [] from rfl, List.append_nil]
              exact HV.out
            have HC4 : Hid (Below wr.heap.size wr wz) := HB
            go_wp2_with fail
            clear HV HB
            go_loopw [10, 12] (fun vo vk wy => ∃ (k : Nat) (V : Value), k ≤ M.length - (i + 1) ∧ vk = .int .i64 ((i + 1 + k : Nat) : Int) ∧ V = vo ∧ Hid (OutD wy wr.heap.size V (doubL g level M i ++ rowD g level M i k)) ∧ Hid (Below wr.heap.size wr wy)) (fun _ vk _ => M.length - (intOf vk).toNat)
            case atStart => exact ⟨0, V, Nat.zero_le _, by simp, rfl, HV4.out, HC4.out⟩
            case round =>
              clear HV4 HC4
              obtain ⟨k, V, hk, rfl, rfl, HV, HB⟩ := hrel
              rename World => wy
              by_cases hkt : i + 1 + k < M.length
              · have HKT := Lib.hid hkt
                obtain ⟨fb, off, hA, hfb, _, f0, f1⟩ := fault_one (HXD.out wr (Below.refl _ _)) HLT.out
                subst hA
                obtain ⟨fb', off', hA', hfb', _, h0, h1⟩ := fault_one (HXD.out wr (Below.refl _ _)) hkt
                obtain ⟨rfl, rfl⟩ : fb = fb' ∧ off = off' := by simpa using hA'
                clear hA' hfb'
                obtain ⟨x, hx⟩ : ∃ x, M.getD i dFault = x := ⟨_, rfl⟩
                obtain ⟨y, hy⟩ : ∃ y, M.getD (i + 1 + k) dFault = y := ⟨_, rfl⟩
                rw [hx] at f0 f1
                rw [hy] at h0 h1
                obtain ⟨hb, hhb⟩ : ∃ hb, harmB g [x, y] level = hb := ⟨_, rfl⟩
                have HST : Hid (doubL g level M i ++ rowD g level M i (k + 1) = (doubL g level M i ++ rowD g level M i k) ++ if hb = true then [(x, y)] else []) := by show _ = _; rw [rowD, hy, hx, hhb, List.append_assoc]
                have HLN : Hid ((doubL g level M i ++ rowD g level M i k).length ≤ 100000) := by
                  show _ ≤ _
                  have e1 := doubL_len g level M i
                  have e2 := rowD_len g level M i k
                  have e3 : i * M.length ≤ 70 * 70 := Nat.mul_le_mul (by have := HLT.out; have := HML.out; omega) HML.out
                  have e4 := HML.out
                  rw [List.length_append]
                  omega
                have HE0 : Hid (∀ W, Below wr.heap.size wr W → (W.cell? ⟨fb, off + i * 2, none⟩ = some (.int .i64 x.kind) ∧ W.cell? ⟨fb, off + i * 2 + 1, none⟩ = some (.int .i64 x.number)) ∧ (W.cell? ⟨fb, off + (i + 1 + k) * 2, none⟩ = some (.int .i64 y.kind) ∧ W.cell? ⟨fb, off + (i + 1 + k) * 2 + 1, none⟩ = some (.int .i64 y.number))) := fun W hW =>
                  ⟨⟨(hW.cell (show (⟨fb, off + i * 2, none⟩ : Addr).block < wr.heap.size from hfb)).trans f0, (hW.cell (show (⟨fb, off + i * 2 + 1, none⟩ : Addr).block < wr.heap.size from hfb)).trans f1⟩, (hW.cell (show (⟨fb, off + (i + 1 + k) * 2, none⟩ : Addr).block < wr.heap.size from hfb)).trans h0, (hW.cell (show (⟨fb, off + (i + 1 + k) * 2 + 1, none⟩ : Addr).block < wr.heap.size from hfb)).trans h1⟩
                obtain ⟨⟨e0, e1⟩, e2, e3⟩ := HE0.out wy HB.out
                clear f0 f1 h0 h1
                generalize doubL g level M i ++ rowD g level M i k = Q at *
                obtain ⟨_, p0, p1, p2, p3⟩ := HX.out wy (HXG.out _ HB.out)
                have HBD : Below wr.heap.size wr wy.drew := HB.out.drew
                have HBX : Below w1.heap.size w1 wy.drew := HXG.out _ HBD
                have HC : Hid (Calls Try.prog 84 #[.agg #[.int .i64 g.nodes, .slice A1 g.lines.length c1, .slice A2 g.srcs.length c2, .slice A3 g.users.length c3], .slice (some ⟨wy.heap.size, 0, none⟩) 2 2, .int .i64 level] (wy.alloc (.cells #[.int .i64 x.kind, .int .i64 x.number, .int .i64 y.kind, .int .i64 y.number] 41)).drew fun e w' => e = .returned (.bool hb) ∧ Below (wy.heap.size + 1) (wy.alloc (.cells #[.int .i64 x.kind, .int .i64 x.number, .int .i64 y.kind, .int .i64 y.number] 41)).drew w') := HH2.out wy.drew x y hb 2 hhb HBX
                have HBA : Below wr.heap.size wr (wy.alloc (.cells #[.int .i64 x.kind, .int .i64 x.number, .int .i64 y.kind, .int .i64 y.number] 41)).drew := (HB.out.alloc HB.out.size _).drew
                have HSS : Hid (∀ W, Below wr.heap.size wr W → (W.cell? ⟨w.heap.size, 0, none⟩ = some (.int .i64 g.nodes) ∧ W.cell? ⟨w.heap.size, 1, none⟩ = some (.slice A1 g.lines.length c1) ∧ W.cell? ⟨w.heap.size, 2, none⟩ = some (.slice A2 g.srcs.length c2) ∧ W.cell? ⟨w.heap.size, 3, none⟩ = some (.slice A3 g.users.length c3)) ∧ ((W.cell? ⟨fb, off + i * 2, none⟩ = some (.int .i64 x.kind) ∧ W.cell? ⟨fb, off + i * 2 + 1, none⟩ = some (.int .i64 x.number)) ∧ (W.cell? ⟨fb, off + (i + 1 + k) * 2, none⟩ = some (.int .i64 y.kind) ∧ W.cell? ⟨fb, off + (i + 1 + k) * 2 + 1, none⟩ = some (.int .i64 y.number)))) := fun W h1 => ⟨(HX.out W (HXG.out W h1)).2, HE0.out W h1⟩
                have HYA : Below wy.heap.size wy (wy.alloc (.cells #[.int .i64 x.kind, .int .i64 x.number, .int .i64 y.kind, .int .i64 y.number] 41)).drew := ((Below.refl _ _).alloc (Nat.le_refl _) _).drew
                clear hx hy hhb
                have r9 : ((i : Int) + 1 + (k : Int)).toNat = i + 1 + k := by omega
                have r10 : (0 : Int) ≤ (i : Int) + 1 + (k : Int) := by omega
                have r11 : (i : Int) + 1 + (k : Int) < (M.length : Int) := by omega
                go_upto_region 18 with fail
                cases hb
                · go_region_held3 (fun W => (W.cell? ⟨w.heap.size, 0, none⟩ = some (.int .i64 g.nodes) ∧ W.cell? ⟨w.heap.size, 1, none⟩ = some (.slice A1 g.lines.length c1) ∧ W.cell? ⟨w.heap.size, 2, none⟩ = some (.slice A2 g.srcs.length c2) ∧ W.cell? ⟨w.heap.size, 3, none⟩ = some (.slice A3 g.users.length c3)) ∧ ((W.cell? ⟨fb, off + i * 2, none⟩ = some (.int .i64 x.kind) ∧ W.cell? ⟨fb, off + i * 2 + 1, none⟩ = some (.int .i64 x.number)) ∧ (W.cell? ⟨fb, off + (i + 1 + k) * 2, none⟩ = some (.int .i64 y.kind) ∧ W.cell? ⟨fb, off + (i + 1 + k) * 2 + 1, none⟩ = some (.int .i64 y.number)))) (first | exact HSS.out _ HBD | exact HSS.out _ HBA | exact HSS.out _ HB8.out | fail) ((first
                    | (go_at_call 84; (with_reducible refine HC.out.mono ?_); rintro e w8 ⟨rfl, hb8⟩; have HY8 : Below wy.heap.size wy w8 := HYA.trans (hb8.mono (by omega)); have HB8 : Hid (Below wr.heap.size wr w8) := bel_next HB.out HY8; have HB8x : Below w1.heap.size w1 w8 := HXG.out _ HB8.out; have HV8 : Hid (OutD w8 wr.heap.size V Q) := own_below HV.out HY8 (fun b hb => (own_block_lt HV.out b hb).2); clear hb8)
                    | fail))
                  clear p0 p1 p2 p3 e0 e1 e2 e3
                  go_wp2_with fail
                  go_roundw
                  case rel => exact ⟨k + 1, V, by have := HKT.out; omega, by go_num, rfl, by rw [HST.out, if_neg (by decide), List.append_nil]; exact HV8.out, HB8.out⟩
                  case measure => simp [intOf]; have := HKT.out; omega
                · go_region_held3 (fun W => (W.cell? ⟨w.heap.size, 0, none⟩ = some (.int .i64 g.nodes) ∧ W.cell? ⟨w.heap.size, 1, none⟩ = some (.slice A1 g.lines.length c1) ∧ W.cell? ⟨w.heap.size, 2, none⟩ = some (.slice A2 g.srcs.length c2) ∧ W.cell? ⟨w.heap.size, 3, none⟩ = some (.slice A3 g.users.length c3)) ∧ ((W.cell? ⟨fb, off + i * 2, none⟩ = some (.int .i64 x.kind) ∧ W.cell? ⟨fb, off + i * 2 + 1, none⟩ = some (.int .i64 x.number)) ∧ (W.cell? ⟨fb, off + (i + 1 + k) * 2, none⟩ = some (.int .i64 y.kind) ∧ W.cell? ⟨fb, off + (i + 1 + k) * 2 + 1, none⟩ = some (.int .i64 y.number)))) (first | exact HSS.out _ HBD | exact HSS.out _ HBA | exact HSS.out _ HB8.out | fail) ((first
                    | (go_at_call 84; (with_reducible refine HC.out.mono ?_); rintro e w8 ⟨rfl, hb8⟩; have HY8 : Below wy.heap.size wy w8 := HYA.trans (hb8.mono (by omega)); have HB8 : Hid (Below wr.heap.size wr w8) := bel_next HB.out HY8; have HB8x : Below w1.heap.size w1 w8 := HXG.out _ HB8.out; have HV8 : Hid (OutD w8 wr.heap.size V Q) := own_below HV.out HY8 (fun b hb => (own_block_lt HV.out b hb).2); clear hb8)
                    | fail))
                  clear p0 p1 p2 p3 e0 e1 e2 e3
                  obtain ⟨⟨p0, p1, p2, p3⟩, ⟨e0, e1⟩, e2, e3⟩ := HSS.out _ HB8.out
                  have HV9 : Hid (OutD (w8.alloc (.cells #[.int .i64 x.kind, .int .i64 x.number, .int .i64 y.kind, .int .i64 y.number] 79)).drew wr.heap.size V Q) := own_below HV8.out (((Below.refl _ _).alloc (Nat.le_refl _) _).drew) (fun b hb => (own_block_lt HV8.out b hb).2)
                  have HB9 : Below wr.heap.size wr (w8.alloc (.cells #[.int .i64 x.kind, .int .i64 x.number, .int .i64 y.kind, .int .i64 y.number] 79)).drew := (HB8.out.alloc HB8.out.size _).drew
                  have HB8d : Below wr.heap.size wr w8.drew := HB8.out.drew
                  have hh9 : (w8.alloc (.cells #[.int .i64 x.kind, .int .i64 x.number, .int .i64 y.kind, .int .i64 y.number] 79)).drew.heap[w8.heap.size]? = some (.cells #[.int .i64 x.kind, .int .i64 x.number, .int .i64 y.kind, .int .i64 y.number] 79 (0, 0)) := heap_alloc_new w8 _
                  have hs9 : wr.heap.size ≤ (w8.alloc (.cells #[.int .i64 x.kind, .int .i64 x.number, .int .i64 y.kind, .int .i64 y.number] 79)).drew.heap.size := HB9.size
                  go_upto_region 19 with fail
                  go_region_held3 (fun W => (W.cell? ⟨w.heap.size, 0, none⟩ = some (.int .i64 g.nodes) ∧ W.cell? ⟨w.heap.size, 1, none⟩ = some (.slice A1 g.lines.length c1) ∧ W.cell? ⟨w.heap.size, 2, none⟩ = some (.slice A2 g.srcs.length c2) ∧ W.cell? ⟨w.heap.size, 3, none⟩ = some (.slice A3 g.users.length c3)) ∧ ((W.cell? ⟨fb, off + i * 2, none⟩ = some (.int .i64 x.kind) ∧ W.cell? ⟨fb, off + i * 2 + 1, none⟩ = some (.int .i64 x.number)) ∧ (W.cell? ⟨fb, off + (i + 1 + k) * 2, none⟩ = some (.int .i64 y.kind) ∧ W.cell? ⟨fb, off + (i + 1 + k) * 2 + 1, none⟩ = some (.int .i64 y.number)))) (first | exact HSS.out _ HB8d | exact HSS.out _ HB9 | exact HSS.out _ HB10.out | fail) ((first
                    | (refine step_app_pair _ (by rfl) _ _ (by rfl) _ V Q (x, y) (by rfl) HV9.out _ (by rfl) hh9 HLN.out hs9 ?_; intro A10 c10 w10 hO10 hb10; have HO10 := Lib.hid hO10; have HB10 : Hid (Below wr.heap.size wr w10) := HB9.trans hb10; clear hO10 hb10)
                    | fail))
                  clear p0 p1 p2 p3 e0 e1 e2 e3
                  go_wp2_with fail
                  go_roundw
                  case rel => exact ⟨k + 1, _, by have := HKT.out; omega, by go_num, rfl, by rw [HST.out, if_pos trivial]; exact HO10.out, HB10.out⟩
                  case measure => simp [intOf]; have := HKT.out; omega
              · obtain rfl : k = M.length - (i + 1) := by omega
                rw [show i + 1 + (M.length - (i + 1)) = M.length by omega]
                go_wp2_with fail
                go_roundw
                case rel => exact ⟨i + 1, V, HLT.out, by go_num, rfl, by rw [doubL]; exact HV.out, HB.out⟩
                case measure => simp [intOf]; have := HLT.out; omega
          · obtain rfl : i = M.length := by omega
            go_wp2_with fail
            go_ret2
            exact ⟨(HX.out _ (HXG.out _ HB.out)).1, .inr ⟨HE.out, n, V, HGO.out, rfl, by rw [HLE.out, HM.out]; exact own_base HV.out (by have := HS1.out; omega)⟩⟩
  · have hz' : (E != 0) = true := by simpa using hz
    have HZN : Hid (E ≠ 0) := hz
    clear hE hz
    go_enter Try.func52, Try.ntmps52
    go_wp2_with (go_at_call 82; refine (HCK.out _ (HX.out _ (Below.refl _ _)).1).mono ?_; rintro e w2 ⟨rfl, hb2⟩; have HB2 := Lib.hid hb2; clear hb2 p0 p1 p2 p3)
    go_ret2
    exact ⟨(HX.out _ HB2.out).1, .inl ⟨by rw [HE.out]; exact HZN.out, by rw [HE.out]; rfl⟩⟩
end Go.Proofs.Ytegclodchhcbaaa
