/- Walks: faults in a row of the call's own, one more at its end; one user less in a row of wanted ones. -/
import Derived.Test.YtegclodchhcbaaaCd
import Derived.Test.YtegclodchhcbaaaPf
import Derived.Deep.AppendLies
namespace Go.Proofs.Ytegclodchhcbaaa
open Go.RowKit

set_option maxRecDepth 100000 in
theorem run_copy_own (w : World) (t e ty : TypeId) (i : TypeInfo) (z : Value) (size bytes : Nat) (ht : Try.prog.underlying t = some (.slice e)) (hi : Try.prog.info? e = some i) (hz : i.zero = some z) (hsize : i.size = size) (hby : i.bytes = bytes) (hzs : z.cells.size = size) (hsz : 0 < size)
    (b : Nat) (hb : w.heap[b]? = some (.cells #[] e (0, 0))) (A : Option Addr) (m c : Nat) (f : Nat → Nat → Value) (h : SlA w w.heap.size size A m f) (hl : m ≤ maxLen) (hm : m * bytes ≤ 140737488355328) (base : Nat) (hbase : base ≤ b) :
    ∃ v' w', (Builtin.append_ #[t, t] ty #[.slice (some ⟨b, 0, none⟩) 0 0, .slice A m c]).run Try.prog w = .ok v' w' ∧ w'.ownsRow base e size v' m (rowL m size f) ∧ Below w.heap.size w w' := by
  have hblt := lt_of_cells hb
  rcases Nat.eq_zero_or_pos m with rfl | hm0
  · refine ⟨.slice (some ⟨b, 0, none⟩) 0 0, w, ?_, ⟨rowL_len _ _ _, .inr ⟨b, 0, #[], rfl, hbase, hb, Nat.le_refl _, Nat.zero_le _, by simp, by simp [rowL]⟩⟩, Below.refl _ _⟩
    rcases A with _ | ad
    · simp [Builtin.append_, run_underlying ht, sizeOf, typeInfo, hi, Builtin.lenOf, Builtin.firstCells, storeCells]
    · simp [Builtin.append_, run_underlying ht, sizeOf, typeInfo, hi, Builtin.lenOf, Builtin.firstCells, storeCells, loadCells, loadCellsFrom]
  · obtain ⟨ad, rfl, hc⟩ := sl_cells h hm0 hsz
    obtain ⟨v', w', hrun, r1, r2⟩ := run_append_arg_grows (P := Try.prog) w t ty e i z size bytes ht hi hz hsize hby hzs hsz ⟨b, 0, none⟩ 0 0 [] (by simp) (fun j u hj => by simp at hj) ad m c (rowL m size f) (rowL_len _ _ _) hc (by omega) (by omega) (by rw [Nat.zero_add]; exact hm)
    rw [Nat.zero_add, List.nil_append] at r1
    exact ⟨v', w', hrun, own_base r1 (by omega), (Below.refl _ _).grown r2 (Nat.le_refl _) (fun k hk => by cases hk)⟩
theorem wpList_copy_own {ops : Array Oper} {rest : List Oper} {o : Oper} {a : Act} {Q : Exit → Act → World → Prop} (w : World) (t e : TypeId) (size bytes : Nat) (hT : CopyT t e size bytes) (hg : o.guard = none) (s x : Operand) (ho : o.op = .call { callee := .builtin .append, args := #[s, x], argTypes := #[t, t] })
    (b : Nat) (hb : w.heap[b]? = some (.cells #[] e (0, 0))) (hs : a.eval s = .slice (some ⟨b, 0, none⟩) 0 0) (A : Option Addr) (m c : Nat) (f : Nat → Nat → Value) (hx : a.eval x = .slice A m c) (h : SlA w w.heap.size size A m f) (hl : m ≤ maxLen) (hm : m * bytes ≤ 140737488355328) (base : Nat) (hbase : base ≤ b)
    (hK : ∀ v' w', w'.ownsRow base e size v' m (rowL m size f) → Below w.heap.size w w' → wpList Try.prog ops Q rest (a.put o.dst v') w') : wpList Try.prog ops Q (o :: rest) a w := by
  refine wpList_plain hg fun K hK' => ?_
  obtain ⟨i, z, h1, h2, h3, h4, h5⟩ := hT.inf
  obtain ⟨v', w', hrun, r1, r2⟩ := run_copy_own w t e o.type i z size bytes hT.und h1 h2 h3 h4 h5 hT.pos b hb A m c f h hl hm base hbase
  unfold Oper.wp
  simp [execOp, ho, resolve, invoke, builtin, hs, hx, hrun, Result.andThen]
  exact hK' _ _ (hK v' w' r1 r2)
/-- faults in a row of the call's own -/
def OutF (w : World) (base : Nat) (v : Value) (F : List MFault) : Prop := w.ownsRow base 41 2 v F.length (rowL F.length 2 (faultCell F))
theorem OutF.reads {w : World} {base : Nat} {v : Value} {F : List MFault} (h : OutF w base v F) (hl : F.length ≤ maxLen) : ∃ A c, v = .slice A F.length c ∧ F.length ≤ c ∧ FaultsA w w.heap.size A F := by
  obtain ⟨A, c, hv, hc, hr⟩ := RowO.of_own h
  exact ⟨A, c, hv, hc, hl, hr.sl⟩
theorem faultCells_app (F : List MFault) (f : MFault) : rowL F.length 2 (faultCell F) ++ [.int .i64 f.kind, .int .i64 f.number] = rowL (F ++ [f]).length 2 (faultCell (F ++ [f])) := by
  have hl : (F ++ [f]).length = F.length + 1 := by simp
  apply List.ext_getElem?
  intro q
  by_cases hq : q < F.length * 2
  · rw [List.getElem?_append_left (by rw [rowL_len]; exact hq), rowL_at hq, rowL_at (by rw [hl]; omega)]
    unfold faultCell
    have e : (F ++ [f]).getD (q / 2) dFault = F.getD (q / 2) dFault := by rw [List.getD_eq_getElem?_getD, List.getElem?_append_left (by omega), List.getD_eq_getElem?_getD]
    rw [e]
  · rw [List.getElem?_append_right (by rw [rowL_len]; omega), rowL_len, hl]
    have e : (F ++ [f]).getD F.length dFault = f := by rw [List.getD_eq_getElem?_getD, List.getElem?_append_right (Nat.le_refl _)]; simp
    rcases (show q - F.length * 2 = 0 ∨ q - F.length * 2 = 1 ∨ 2 ≤ q - F.length * 2 by omega) with h | h | h
    · rw [h, rowL_at (by omega)]
      have h1 : q / 2 = F.length := by omega
      have h2 : q % 2 = 0 := by omega
      unfold faultCell
      rw [h1, h2, e]
      rfl
    · rw [h, rowL_at (by omega)]
      have h1 : q / 2 = F.length := by omega
      have h2 : q % 2 = 1 := by omega
      unfold faultCell
      rw [h1, h2, e]
      rfl
    · rw [List.getElem?_eq_none (by simp; omega), List.getElem?_eq_none (by rw [rowL_len]; omega)]
set_option maxRecDepth 100000 in
theorem step_app_fault {ops : Array Oper} {o : Oper} {a : Act} {K : Act → World → Prop} {Q : Exit → Act → World → Prop} {E : Prop} (w : World) (hg : o.guard = none) (s x : Operand) (ho : o.op = .call { callee := .builtin .append, args := #[s, x], argTypes := #[27, 27] }) (base : Nat) (v : Value) (F : List MFault) (f : MFault)
    (hs : a.eval s = v) (hown : OutF w base v F) (xb : Nat) (hx : a.eval x = .slice (some ⟨xb, 0, none⟩) 1 1) (hh : w.heap[xb]? = some (.cells #[.int .i64 f.kind, .int .i64 f.number] 41 (0, 0))) (hl : F.length ≤ 1000) (hbase : base ≤ w.heap.size)
    (hK : ∀ A c w', F.length + 1 ≤ c → FaultsA w' w'.heap.size A (F ++ [f]) → Below base w w' → K (a.put o.dst (.slice A (F.length + 1) c)) w') :
    if Region.wanted o (yielded ops a.tmps) = true then Oper.wp Try.prog o a w K Q else E := by
  obtain ⟨i0, hi, hz0, hz1, hz2⟩ := info_parts info_fault
  have hlt := own_block_lt hown
  refine step_append_lies w hg s x 27 ho base 41 i0 _ 2 16 copyF.und hi hz0 hz1 hz2 rfl (by decide) v F.length _ hs hown ⟨xb, 0, none⟩ 1 1 [.int .i64 f.kind, .int .i64 f.number] hx rfl (fun j u hj => ?_) (fun u hu => ?_) (by decide) (by unfold maxLen; omega) (by omega) hbase w.heap.size rfl (fun g c w' e1 e2 e3 e4 => ?_)
  · rw [add_none0, Nat.zero_add, cell_of_row w xb j _ 41 _ hh]
    rw [List.getElem?_toArray]
    exact hj
  · simp at hu
    rcases hu with rfl | rfl <;> rfl
  · rw [faultCells_app] at e1
    have e1' : OutF w' base (.slice (some ⟨g, 0, none⟩) (F.length + 1) c) (F ++ [f]) := by
      unfold OutF
      rw [List.length_append] at e1 ⊢
      exact e1
    obtain ⟨A, c', hv, hc, hf⟩ := e1'.reads (by simp; unfold maxLen; omega)
    injection hv with h1 h2 h3
    subst h1
    subst h3
    rw [List.length_append] at hc
    exact hK _ c w' hc hf ((Below.refl _ _).grown e2 hbase (fun k hk => (hlt k hk).1))
set_option maxRecDepth 100000 in
set_option maxHeartbeats 4000000 in
theorem faultsO_any (g : MGrid) (A1 A2 A3 : Option Addr) (c1 c2 c3 : Nat) (A : Option Addr) (cap : Nat) (F : List MFault) (Aw : Option Addr) (wc : Nat) (want : List Int) (w : World) (h : FaultsA w w.heap.size A F) (hl : F.length ≤ 1000) :
    Calls Try.prog 19 #[.agg (caseC g A1 A2 A3 c1 c2 c3 A cap F Aw wc want)] w fun e w' => ∃ v, e = .returned v ∧ OutF w' w.heap.size v F ∧ Below w.heap.size w w' := by
  unfold caseC
  obtain ⟨w1, hw1⟩ : ∃ w1, w.alloc (.cells #[.int .i64 g.nodes, .slice A1 g.lines.length c1, .slice A2 g.srcs.length c2, .slice A3 g.users.length c3, .slice A F.length cap, .slice Aw want.length wc] 30) = w1 := ⟨_, rfl⟩
  have hb1 : Below w.heap.size w w1 := by rw [← hw1]; exact (Below.refl _ _).alloc (Nat.le_refl _) _
  have hs1 : w1.heap.size = w.heap.size + 1 := by rw [← hw1]; simp
  have hx1 : w1.heap[w.heap.size]? = some (.cells #[.int .i64 g.nodes, .slice A1 g.lines.length c1, .slice A2 g.srcs.length c2, .slice A3 g.users.length c3, .slice A F.length cap, .slice Aw want.length wc] 30 (0, 0)) := by rw [← hw1]; exact heap_alloc_new w _
  have p4 := cell_of_row w1 _ 4 _ _ _ hx1
  simp only [List.getElem?_toArray, List.getElem?_cons_succ, List.getElem?_cons_zero] at p4
  have hl1 : w.heap.size < w1.heap.size := by omega
  have hb2 : Below w.heap.size w (w1.alloc (.cells #[] 41)) := hb1.alloc hb1.size _
  have hm : F.length ≤ maxLen := h.1
  have HF : Hid (SlA (w1.alloc (.cells #[] 41)) (w1.alloc (.cells #[] 41)).heap.size 2 A F.length (faultCell F)) := ((h.keep hb2).more hb2.size).2
  have HN : Hid ((w1.alloc (.cells #[] 41)).heap[w1.heap.size]? = some (.cells #[] 41 (0, 0))) := heap_alloc_new w1 _
  have HB2 := Lib.hid hb2
  clear h hb1 hx1 hb2 hs1
  go_enter Try.func19, Try.ntmps19
  go_wp2_with (at_builtin; refine wpList_copy_own _ 27 41 2 16 copyF rfl _ _ rfl w1.heap.size HN.out rfl A F.length cap (faultCell F) rfl HF.out hm (by omega) w.heap.size (by omega) ?_; intro v6 w6 ho6 hb6; have HO6 := Lib.hid ho6; have HB6 := Lib.hid hb6; clear ho6 hb6)
  go_ret
  exact ⟨v6, rfl, HO6.out, HB2.out.trans (HB6.out.mono HB2.out.size)⟩
/-! ### one wanted user less -/
theorem setCells_heap (b : Nat) : ∀ (vs : List Value) (o : Nat) (w : World) (k : Nat), k ≠ b → (w.setCells b o vs).heap[k]? = w.heap[k]?
  | [], _, _, _, _ => rfl
  | v :: r, o, w, k, h => by rw [World.setCells, setCells_heap b r (o + 1) _ k h, Below.heap_setCell w ⟨b, o, none⟩ v k h]
theorem setCells_size (b : Nat) : ∀ (vs : List Value) (o : Nat) (w : World), (w.setCells b o vs).heap.size = w.heap.size
  | [], _, _ => rfl
  | v :: r, o, w => by rw [World.setCells, setCells_size b r (o + 1)]; simp
theorem setCells_below {B : Nat} {a : World} (b : Nat) (hb : B ≤ b) : ∀ (vs : List Value) (o : Nat) (w : World), Below B a w → Below B a (w.setCells b o vs)
  | [], _, _, h => h
  | v :: r, o, w, h => by rw [World.setCells]; exact setCells_below b hb r (o + 1) _ (h.setCell (p := ⟨b, o, none⟩) hb v)
theorem erase_cells {w : World} {g k : Nat} {l : List Int} (h : OwnF w g 3 l.length (fun j => .int .i64 (l.getD j 0))) (hk : k < l.length) (hl : l.length ≤ maxLen) :
    IntsA (w.setCells g k ((l.drop (k + 1)).map (Value.int .i64))) (w.setCells g k ((l.drop (k + 1)).map (Value.int .i64))).heap.size (some ⟨g, 0, none⟩) (l.eraseIdx k) := by
  have hel : (l.eraseIdx k).length = l.length - 1 := by rw [List.length_eraseIdx, if_pos hk]
  have hdl : ((l.drop (k + 1)).map (Value.int .i64)).length = l.length - (k + 1) := by rw [List.length_map, List.length_drop]
  refine ⟨by omega, fun _ => ⟨g, 0, rfl, by rw [setCells_size]; exact h.lt, fun i hi => ?_⟩⟩
  rw [Nat.zero_add, erase_get]
  by_cases hik : i < k
  · rw [if_pos hik, World.cell?_setCells_out g _ k w ⟨g, i, none⟩ (fun _ _ => .inl hik)]
    exact h.cell (by omega)
  · rw [if_neg hik]
    have h1 := World.cell?_setCells_in g ((l.drop (k + 1)).map (Value.int .i64)) k w (fun j hj => by rw [h.cell (by omega)]; rfl) (i - k) (by omega)
    rw [show k + (i - k) = i by omega] at h1
    rw [h1]
    simp only [List.getElem_map, List.getElem_drop, List.getD_eq_getElem?_getD]
    rw [List.getElem?_eq_getElem (show i + 1 < l.length by omega)]
    simp only [Option.getD_some, Option.some.injEq, Value.int.injEq, true_and]
    congr 1
    omega
end Go.Proofs.Ytegclodchhcbaaa
