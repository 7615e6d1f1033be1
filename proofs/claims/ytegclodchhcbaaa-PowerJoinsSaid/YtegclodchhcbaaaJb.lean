/- Walk laws: rows of the call's own that may be empty; one more at their end; a grid of the call's own that grows in its box. -/
import Derived.Test.YtegclodchhcbaaaCc
import Derived.Test.YtegclodchhcbaaaFx
namespace Go.Proofs.Ytegclodchhcbaaa
open Go.RowKit

/-- m elements in a row of the call's own (or none at all, anywhere) -/
def ORow (w : World) (base e size : Nat) (A : Option Addr) (c m : Nat) (f : Nat → Nat → Value) : Prop := (m = 0 ∧ c = 0) ∨ w.ownsRow base e size (.slice A m c) m (rowL m size f)
theorem ORow.base {w : World} {base base' e size m c : Nat} {A : Option Addr} {f : Nat → Nat → Value} (h : ORow w base e size A c m f) (hb : base' ≤ base) : ORow w base' e size A c m f := h.imp id fun h => own_base h hb
theorem ORow.next {w w' : World} {base e size m c : Nat} {A : Option Addr} {f : Nat → Nat → Value} (h : ORow w base e size A c m f) (hb : Below w.heap.size w w') : ORow w' base e size A c m f := h.imp id fun h => own_below h hb fun k hk => (own_block_lt h k hk).2
/-- what a step grows: a block of the row's type -/
def Grows (w w' : World) (base e : Nat) : Prop := ∃ row, w.grownBy w' row ∧ ∀ k, row = some k → base ≤ k ∧ ∃ cs, w.heap[k]? = some (.cells cs e (0, 0))
theorem Grows.block {w w' : World} {base e : Nat} (h : Grows w w' base e) {k : Nat} {cs : Array Value} {t : TypeId} {fz : Nat × Nat} (hk : w.heap[k]? = some (.cells cs t fz)) (ht : t ≠ e) : w'.heap[k]? = some (.cells cs t fz) := by
  obtain ⟨row, hg, hr⟩ := h
  refine (hg.block k (lt_of_cells hk) fun e' => ?_).trans hk
  obtain ⟨_, cs', h'⟩ := hr k e'.symm
  rw [hk] at h'
  injection h' with h'
  injection h' with _ h'
  exact ht h'
theorem Grows.below {w w' a : World} {base e B : Nat} (h : Grows w w' base e) (hb : Below B a w) (hB : B ≤ base) (hs : base ≤ w.heap.size) : Below B a w' := by
  obtain ⟨row, hg, hr⟩ := h
  exact hb.grown hg (by omega) fun k hk => by have := (hr k hk).1; omega
theorem Grows.other {w w' : World} {base base' e e' size m c : Nat} {A : Option Addr} {f : Nat → Nat → Value} (h : Grows w w' base e) (hne : e' ≠ e) (ho : ORow w base' e' size A c m f) : ORow w' base' e' size A c m f := by
  refine ho.imp id fun ho => ?_
  obtain ⟨row, hg, hr⟩ := id h
  refine ho.kept hg ?_
  rcases ho.2 with ⟨hv, _⟩ | ⟨g, cap, cur, hv, _, hh, _⟩
  · left; rw [hv]; rfl
  · right
    rw [hv]
    intro e1
    obtain ⟨_, cs, h'⟩ := hr g e1.symm
    rw [hh] at h'
    injection h' with h'
    injection h' with _ h'
    exact hne h'
theorem ORow.set {w : World} {base e size m c : Nat} {A : Option Addr} {f : Nat → Nat → Value} (h : ORow w base e size A c m f) {b o : Nat} {cs : Array Value} {t : TypeId} (hb : w.heap[b]? = some (.cells cs t (0, 0))) (ht : t ≠ e) (u : Value) : ORow (w.setCell ⟨b, o, none⟩ u) base e size A c m f := by
  refine h.imp id fun ho => ?_
  have hg : w.grownBy (w.setCell ⟨b, o, none⟩ u) (some b) := ⟨rfl, rfl, rfl, Nat.le_of_eq (by simp), fun k _ hk => Below.heap_setCell w ⟨b, o, none⟩ u k (fun e => hk (by rw [e]))⟩
  refine ho.kept hg ?_
  rcases ho.2 with ⟨hv, _⟩ | ⟨g, cap, cur, hv, _, hh, _⟩
  · left; rw [hv]; rfl
  · right
    rw [hv]
    intro e1
    obtain rfl : g = b := by simpa [Value.ownBlock] using e1
    rw [hb] at hh
    injection hh with h'
    injection h' with _ h'
    exact ht h'
theorem rowL_more {m size : Nat} {f f' : Nat → Nat → Value} (hs : 0 < size) (h : ∀ i j, i < m → j < size → f' i j = f i j) : rowL (m + 1) size f' = rowL m size f ++ (List.range size).map (f' m) := by
  apply List.ext_getElem?
  intro q
  have h1 : (m + 1) * size = m * size + size := by rw [Nat.add_mul, Nat.one_mul]
  by_cases hq : q < m * size
  · rw [List.getElem?_append_left (by rw [rowL_len]; exact hq), rowL_at hq, rowL_at (by omega), h _ _ (by rw [Nat.div_lt_iff_lt_mul hs]; exact hq) (Nat.mod_lt _ hs)]
  · rw [List.getElem?_append_right (by rw [rowL_len]; omega), rowL_len]
    by_cases hq2 : q < (m + 1) * size
    · obtain ⟨d, rfl⟩ : ∃ d, q = m * size + d := ⟨q - m * size, by omega⟩
      have hd : d < size := by omega
      have e1 : (m * size + d) / size = m := by rw [Nat.mul_comm, Nat.mul_add_div hs, Nat.div_eq_of_lt hd, Nat.add_zero]
      have e2 : (m * size + d) % size = d := by rw [Nat.mul_comm, Nat.mul_add_mod, Nat.mod_eq_of_lt hd]
      rw [rowL_at hq2, e1, e2, Nat.add_sub_cancel_left, List.getElem?_map, List.getElem?_range hd]
      rfl
    · rw [List.getElem?_eq_none (by rw [rowL_len]; omega), List.getElem?_eq_none (by simp; omega)]
set_option maxRecDepth 100000 in
theorem run_more (w : World) (t e ty size bytes : Nat) (hT : CopyT t e size bytes) (base : Nat) (A : Option Addr) (c m : Nat) (f f' : Nat → Nat → Value) (h : ORow w base e size A c m f) (hf : ∀ i j, i < m → j < size → f' i j = f i j) (xb : Nat)
    (hh : w.heap[xb]? = some (.cells ((List.range size).map (f' m)).toArray e (0, 0))) (h1 : ∀ u ∈ (List.range size).map (f' m), u.oneCell' = true) (hl : m + 1 ≤ 1000) (hby : bytes ≤ 64) (hbase : base ≤ w.heap.size) :
    ∃ A' c' w', (Builtin.append_ #[t, t] ty #[.slice A m c, .slice (some ⟨xb, 0, none⟩) 1 1]).run Try.prog w = .ok (.slice A' (m + 1) c') w' ∧ ORow w' base e size A' c' (m + 1) f' ∧ Grows w w' base e := by
  obtain ⟨i, z, k1, k2, k3, k4, k5⟩ := hT.inf
  have hnews : ∀ j u, ((List.range size).map (f' m))[j]? = some u → w.cell? ((⟨xb, 0, none⟩ : Addr).add j) = some u := fun j u hj => by
    rw [add_none0, Nat.zero_add, cell_of_row w xb j _ e _ hh]
    rw [List.getElem?_toArray]
    exact hj
  have hbb : (m + 1) * bytes ≤ 140737488355328 := by
    have := Nat.mul_le_mul hl hby
    omega
  have own : w.ownsRow base e size (.slice A m c) m (rowL m size f) → ∃ A' c' w', (Builtin.append_ #[t, t] ty #[.slice A m c, .slice (some ⟨xb, 0, none⟩) 1 1]).run Try.prog w = .ok (.slice A' (m + 1) c') w' ∧ ORow w' base e size A' c' (m + 1) f' ∧ Grows w w' base e := fun h => by
    obtain ⟨v', w', hrun, r1, r2, _⟩ := run_append_own (P := Try.prog) w base t ty e i z size bytes hT.und k1 k2 k3 k4 k5 hT.pos (.slice A m c) m _ h ⟨xb, 0, none⟩ 1 1 _ (by simp) hnews h1 (by unfold maxLen; omega) hbb hbase
    rw [← rowL_more hT.pos hf] at r1
    obtain ⟨A', c', rfl, _, _⟩ := RowO.of_own r1
    refine ⟨A', c', w', hrun, .inr r1, _, r2, fun k hk => ?_⟩
    have h2 := own_block_lt h k hk
    rcases h.2 with ⟨hv, _⟩ | ⟨g, cap, cur, hv, _, hhg, _⟩
    · rw [hv] at hk; cases hk
    · rw [hv] at hk
      obtain rfl : g = k := by simpa [Value.ownBlock] using hk
      exact ⟨h2.1, cur, hhg⟩
  rcases h with ⟨rfl, rfl⟩ | h
  · rcases A with _ | ad
    · exact own ⟨rowL_len _ _ _, .inl ⟨rfl, rfl⟩⟩
    · obtain ⟨v', w', hrun, r1, r2⟩ := run_append_arg_grows (P := Try.prog) w t ty e i z size bytes hT.und k1 k2 k3 k4 k5 hT.pos ad 0 0 [] (by simp) (fun j u hj => by simp at hj) ⟨xb, 0, none⟩ 1 1 _ (by simp) hnews (by omega) (by unfold maxLen; omega) (by rw [Nat.zero_add] at hbb ⊢; exact hbb)
      have e0 : ([] : List Value) ++ (List.range size).map (f' 0) = rowL (0 + 1) size f' := by rw [rowL_more (f := f) hT.pos hf]; simp [rowL]
      rw [e0] at r1
      obtain ⟨A', c', rfl, _, _⟩ := RowO.of_own r1
      exact ⟨A', c', w', hrun, .inr (own_base r1 hbase), none, r2, fun k hk => by cases hk⟩
  · exact own h
set_option maxRecDepth 100000 in
theorem run_copy_o (w : World) (t e ty : TypeId) (i : TypeInfo) (z : Value) (size bytes : Nat) (ht : Try.prog.underlying t = some (.slice e)) (hi : Try.prog.info? e = some i) (hz : i.zero = some z) (hsize : i.size = size) (hby : i.bytes = bytes) (hzs : z.cells.size = size) (hsz : 0 < size)
    (b : Nat) (A : Option Addr) (m c : Nat) (f : Nat → Nat → Value) (h : SlA w w.heap.size size A m f) (hl : m ≤ maxLen) (hm : m * bytes ≤ 140737488355328) :
    ∃ A' c' w', (Builtin.append_ #[t, t] ty #[.slice (some ⟨b, 0, none⟩) 0 0, .slice A m c]).run Try.prog w = .ok (.slice A' m c') w' ∧ ORow w' w.heap.size e size A' c' m f ∧ Below w.heap.size w w' := by
  rcases Nat.eq_zero_or_pos m with rfl | hm0
  · refine ⟨some ⟨b, 0, none⟩, 0, w, ?_, .inl ⟨rfl, rfl⟩, Below.refl _ _⟩
    rcases A with _ | ad
    · simp [Builtin.append_, run_underlying ht, sizeOf, typeInfo, hi, Builtin.lenOf, Builtin.firstCells, storeCells]
    · simp [Builtin.append_, run_underlying ht, sizeOf, typeInfo, hi, Builtin.lenOf, Builtin.firstCells, storeCells, loadCells, loadCellsFrom]
  · obtain ⟨ad, rfl, hc⟩ := sl_cells h hm0 hsz
    obtain ⟨v', w', hrun, r1, r2⟩ := run_append_arg_grows (P := Try.prog) w t ty e i z size bytes ht hi hz hsize hby hzs hsz ⟨b, 0, none⟩ 0 0 [] (by simp) (fun j u hj => by simp at hj) ad m c (rowL m size f) (rowL_len _ _ _) hc (by omega) (by omega) (by rw [Nat.zero_add]; exact hm)
    rw [Nat.zero_add, List.nil_append] at r1
    obtain ⟨A', c', rfl, _, _⟩ := RowO.of_own r1
    exact ⟨A', c', w', hrun, .inr r1, (Below.refl _ _).grown r2 (Nat.le_refl _) (fun k hk => by cases hk)⟩
section
variable {ops : Array Oper} {rest : List Oper} {o : Oper} {a : Act} {Q : Exit → Act → World → Prop}
theorem app_more (w : World) (t e size bytes : Nat) (hT : CopyT t e size bytes) (hg : o.guard = none) (s x : Operand) (ho : o.op = .call { callee := .builtin .append, args := #[s, x], argTypes := #[t, t] }) (base : Nat) (A : Option Addr) (c m : Nat) (f f' : Nat → Nat → Value)
    (hs : a.eval s = .slice A m c) (h : ORow w base e size A c m f) (hf : ∀ i j, i < m → j < size → f' i j = f i j) (xb : Nat) (hx : a.eval x = .slice (some ⟨xb, 0, none⟩) 1 1)
    (hh : w.heap[xb]? = some (.cells ((List.range size).map (f' m)).toArray e (0, 0))) (h1 : ∀ u ∈ (List.range size).map (f' m), u.oneCell' = true) (hl : m + 1 ≤ 1000) (hby : bytes ≤ 64) (hbase : base ≤ w.heap.size)
    (hK : ∀ A' c' w', ORow w' base e size A' c' (m + 1) f' → Grows w w' base e → wpList Try.prog ops Q rest (a.put o.dst (.slice A' (m + 1) c')) w') : wpList Try.prog ops Q (o :: rest) a w := by
  refine wpList_plain hg fun K hK' => ?_
  obtain ⟨A', c', w', hrun, r1, r2⟩ := run_more w t e o.type size bytes hT base A c m f f' h hf xb hh h1 hl hby hbase
  unfold Oper.wp
  simp [execOp, ho, resolve, invoke, builtin, hs, hx, hrun, Result.andThen]
  exact hK' _ _ (hK A' c' w' r1 r2)
theorem step_copy_o {K : Act → World → Prop} {E : Prop} (w : World) (t e : TypeId) (size bytes : Nat) (hT : CopyT t e size bytes) (hg : o.guard = none) (s x : Operand) (ho : o.op = .call { callee := .builtin .append, args := #[s, x], argTypes := #[t, t] })
    (b : Nat) (hs : a.eval s = .slice (some ⟨b, 0, none⟩) 0 0) (A : Option Addr) (m c : Nat) (f : Nat → Nat → Value) (hx : a.eval x = .slice A m c) (h : SlA w w.heap.size size A m f) (hl : m ≤ maxLen) (hm : m * bytes ≤ 140737488355328)
    (hK : ∀ A' c' w', ORow w' w.heap.size e size A' c' m f → Below w.heap.size w w' → K (a.put o.dst (.slice A' m c')) w') :
    if Region.wanted o (yielded ops a.tmps) = true then Oper.wp Try.prog o a w K Q else E := by
  rw [if_pos (by simp [Region.wanted, hg])]
  obtain ⟨i, z, h1, h2, h3, h4, h5⟩ := hT.inf
  obtain ⟨A', c', w', hrun, r1, r2⟩ := run_copy_o w t e o.type i z size bytes hT.und h1 h2 h3 h4 h5 hT.pos b A m c f h hl hm
  unfold Oper.wp
  simp [execOp, ho, resolve, invoke, builtin, hs, hx, hrun, Result.andThen]
  exact hK A' c' w' r1 r2
theorem wpList_copy_o (w : World) (t e : TypeId) (size bytes : Nat) (hT : CopyT t e size bytes) (hg : o.guard = none) (s x : Operand) (ho : o.op = .call { callee := .builtin .append, args := #[s, x], argTypes := #[t, t] })
    (b : Nat) (hs : a.eval s = .slice (some ⟨b, 0, none⟩) 0 0) (A : Option Addr) (m c : Nat) (f : Nat → Nat → Value) (hx : a.eval x = .slice A m c) (h : SlA w w.heap.size size A m f) (hl : m ≤ maxLen) (hm : m * bytes ≤ 140737488355328)
    (hK : ∀ A' c' w', ORow w' w.heap.size e size A' c' m f → Below w.heap.size w w' → wpList Try.prog ops Q rest (a.put o.dst (.slice A' m c')) w') : wpList Try.prog ops Q (o :: rest) a w := by
  refine wpList_plain hg fun K hK' => ?_
  obtain ⟨i, z, h1, h2, h3, h4, h5⟩ := hT.inf
  obtain ⟨A', c', w', hrun, r1, r2⟩ := run_copy_o w t e o.type i z size bytes hT.und h1 h2 h3 h4 h5 hT.pos b A m c f h hl hm
  unfold Oper.wp
  simp [execOp, ho, resolve, invoke, builtin, hs, hx, hrun, Result.andThen]
  exact hK' _ _ (hK A' c' w' r1 r2)
end
/-- a grid of the call's own whose slices lie in a box -/
structure JS (W : World) (B bx : Nat) (nn : Int) (A1 A2 A3 : Option Addr) (c1 c2 c3 : Nat) (g : MGrid) : Prop where
  box : W.heap[bx]? = some (.cells #[.int .i64 nn, .slice A1 g.lines.length c1, .slice A2 g.srcs.length c2, .slice A3 g.users.length c3] 26 (0, 0))
  l : ORow W B 67 4 A1 c1 g.lines.length (lineCell g.lines)
  s : ORow W B 57 2 A2 c2 g.srcs.length (srcCell g.srcs)
  u : ORow W B 55 3 A3 c3 g.users.length (userCell g.users)
section
variable {W W' : World} {B bx : Nat} {nn : Int} {A1 A2 A3 : Option Addr} {c1 c2 c3 : Nat} {g : MGrid}
theorem JS.next (h : JS W B bx nn A1 A2 A3 c1 c2 c3 g) (hb : Below W.heap.size W W') : JS W' B bx nn A1 A2 A3 c1 c2 c3 g :=
  ⟨(hb.block bx (lt_of_cells h.box)).trans h.box, h.l.next hb, h.s.next hb, h.u.next hb⟩
theorem JS.line (h : JS W B bx nn A1 A2 A3 c1 c2 c3 g) {x : MLine} {A' : Option Addr} {c' : Nat} (hg : Grows W W' B 67) (ho : ORow W' B 67 4 A' c' (g.lines.length + 1) (lineCell (g.lines ++ [x]))) :
    JS (W'.setCell ⟨bx, 1, none⟩ (.slice A' (g.lines.length + 1) c')) B bx nn A' A2 A3 c' c2 c3 { g with lines := g.lines ++ [x] } := by
  have hx := hg.block h.box (by decide)
  refine ⟨?_, ?_, (hg.other (by decide) h.s).set hx (by decide) _, (hg.other (by decide) h.u).set hx (by decide) _⟩
  · have := heap_setCell_same W' bx 1 _ 26 (.slice A' (g.lines.length + 1) c') hx
    rw [List.length_append]
    exact this
  · have := ho.set (o := 1) hx (by decide) (.slice A' (g.lines.length + 1) c')
    show ORow _ _ _ _ _ _ (g.lines ++ [x]).length _
    rw [List.length_append]
    exact this
theorem JS.src (h : JS W B bx nn A1 A2 A3 c1 c2 c3 g) {x : MSrc} {A' : Option Addr} {c' : Nat} (hg : Grows W W' B 57) (ho : ORow W' B 57 2 A' c' (g.srcs.length + 1) (srcCell (g.srcs ++ [x]))) :
    JS (W'.setCell ⟨bx, 2, none⟩ (.slice A' (g.srcs.length + 1) c')) B bx nn A1 A' A3 c1 c' c3 { g with srcs := g.srcs ++ [x] } := by
  have hx := hg.block h.box (by decide)
  refine ⟨?_, (hg.other (by decide) h.l).set hx (by decide) _, ?_, (hg.other (by decide) h.u).set hx (by decide) _⟩
  · have := heap_setCell_same W' bx 2 _ 26 (.slice A' (g.srcs.length + 1) c') hx
    rw [List.length_append]
    exact this
  · have := ho.set (o := 2) hx (by decide) (.slice A' (g.srcs.length + 1) c')
    show ORow _ _ _ _ _ _ (g.srcs ++ [x]).length _
    rw [List.length_append]
    exact this
theorem JS.user (h : JS W B bx nn A1 A2 A3 c1 c2 c3 g) {x : MUser} {A' : Option Addr} {c' : Nat} (hg : Grows W W' B 55) (ho : ORow W' B 55 3 A' c' (g.users.length + 1) (userCell (g.users ++ [x]))) :
    JS (W'.setCell ⟨bx, 3, none⟩ (.slice A' (g.users.length + 1) c')) B bx nn A1 A2 A' c1 c2 c' { g with users := g.users ++ [x] } := by
  have hx := hg.block h.box (by decide)
  refine ⟨?_, (hg.other (by decide) h.l).set hx (by decide) _, (hg.other (by decide) h.s).set hx (by decide) _, ?_⟩
  · have := heap_setCell_same W' bx 3 _ 26 (.slice A' (g.users.length + 1) c') hx
    rw [List.length_append]
    exact this
  · have := ho.set (o := 3) hx (by decide) (.slice A' (g.users.length + 1) c')
    show ORow _ _ _ _ _ _ (g.users ++ [x]).length _
    rw [List.length_append]
    exact this
theorem ORow.sl {e size m c : Nat} {A : Option Addr} {f : Nat → Nat → Value} (h : ORow W B e size A c m f) : RowO W B e size A m f := by
  rcases h with ⟨rfl, _⟩ | h
  · exact fun h0 => by omega
  · obtain ⟨A', c', hv, _, hr⟩ := RowO.of_own h
    injection hv with h1 h2 h3
    subst h1
    exact hr
theorem JS.own (h : JS W B bx nn A1 A2 A3 c1 c2 c3 g) : OwnG W B g A1 A2 A3 := ⟨h.l.sl, h.s.sl, h.u.sl⟩
end
theorem cells_line {l : List MLine} {x : MLine} {m : Nat} (hm : l.length = m) : (∀ i j, i < m → j < 4 → lineCell (l ++ [x]) i j = lineCell l i j) ∧ ((List.range 4).map (lineCell (l ++ [x]) m)).toArray = #[.int .i64 x.a, .int .i64 x.b, .int .i64 x.limit, .bool x.one] := by
  subst hm
  refine ⟨fun i j hi _ => ?_, ?_⟩
  · unfold lineCell
    rw [show (l ++ [x]).getD i dLine = l.getD i dLine by rw [List.getD_eq_getElem?_getD, List.getElem?_append_left hi, List.getD_eq_getElem?_getD]]
  · have e : (l ++ [x]).getD l.length dLine = x := by rw [List.getD_eq_getElem?_getD, List.getElem?_append_right (Nat.le_refl _)]; simp
    unfold lineCell
    rw [e]
    rfl
theorem cells_src {l : List MSrc} {x : MSrc} {m : Nat} (hm : l.length = m) : (∀ i j, i < m → j < 2 → srcCell (l ++ [x]) i j = srcCell l i j) ∧ ((List.range 2).map (srcCell (l ++ [x]) m)).toArray = #[.int .i64 x.node, .int .i64 x.power] := by
  subst hm
  refine ⟨fun i j hi _ => ?_, ?_⟩
  · unfold srcCell
    rw [show (l ++ [x]).getD i dSrc = l.getD i dSrc by rw [List.getD_eq_getElem?_getD, List.getElem?_append_left hi, List.getD_eq_getElem?_getD]]
  · have e : (l ++ [x]).getD l.length dSrc = x := by rw [List.getD_eq_getElem?_getD, List.getElem?_append_right (Nat.le_refl _)]; simp
    unfold srcCell
    rw [e]
    rfl
theorem cells_user {l : List MUser} {x : MUser} {m : Nat} (hm : l.length = m) : (∀ i j, i < m → j < 3 → userCell (l ++ [x]) i j = userCell l i j) ∧ ((List.range 3).map (userCell (l ++ [x]) m)).toArray = #[.int .i64 x.node, .int .i64 x.power, .int .i64 x.level] := by
  subst hm
  refine ⟨fun i j hi _ => ?_, ?_⟩
  · unfold userCell
    rw [show (l ++ [x]).getD i dUser = l.getD i dUser by rw [List.getD_eq_getElem?_getD, List.getElem?_append_left hi, List.getD_eq_getElem?_getD]]
  · have e : (l ++ [x]).getD l.length dUser = x := by rw [List.getD_eq_getElem?_getD, List.getElem?_append_right (Nat.le_refl _)]; simp
    unfold userCell
    rw [e]
    rfl
section
variable {ops : Array Oper} {rest : List Oper} {o : Oper} {a : Act} {Q : Exit → Act → World → Prop}
theorem app_line (w : World) (hg : o.guard = none) (s x' : Operand) (ho : o.op = .call { callee := .builtin .append, args := #[s, x'], argTypes := #[22, 22] }) (base : Nat) (A : Option Addr) (c : Nat) (l : List MLine) (x : MLine)
    (hs : a.eval s = .slice A l.length c) (h : ORow w base 67 4 A c l.length (lineCell l)) (xb : Nat) (hx : a.eval x' = .slice (some ⟨xb, 0, none⟩) 1 1)
    (hh : w.heap[xb]? = some (.cells #[.int .i64 x.a, .int .i64 x.b, .int .i64 x.limit, .bool x.one] 67 (0, 0))) (hl : l.length + 1 ≤ 1000) (hbase : base ≤ w.heap.size)
    (hK : ∀ A' c' w', ORow w' base 67 4 A' c' (l.length + 1) (lineCell (l ++ [x])) → Grows w w' base 67 → wpList Try.prog ops Q rest (a.put o.dst (.slice A' (l.length + 1) c')) w') : wpList Try.prog ops Q (o :: rest) a w := by
  obtain ⟨h1, h2⟩ := cells_line (x := x) (Eq.refl l.length)
  refine app_more w 22 67 4 32 copyL hg s x' ho base A c l.length _ _ hs h h1 xb hx (by rw [h2]; exact hh) (fun u hu => ?_) hl (by decide) hbase hK
  have : u ∈ (#[.int .i64 x.a, .int .i64 x.b, .int .i64 x.limit, .bool x.one] : Array Value) := by rw [← h2]; simpa using hu
  simp at this
  rcases this with rfl | rfl | rfl | rfl <;> rfl
theorem app_src (w : World) (hg : o.guard = none) (s x' : Operand) (ho : o.op = .call { callee := .builtin .append, args := #[s, x'], argTypes := #[23, 23] }) (base : Nat) (A : Option Addr) (c : Nat) (l : List MSrc) (x : MSrc)
    (hs : a.eval s = .slice A l.length c) (h : ORow w base 57 2 A c l.length (srcCell l)) (xb : Nat) (hx : a.eval x' = .slice (some ⟨xb, 0, none⟩) 1 1)
    (hh : w.heap[xb]? = some (.cells #[.int .i64 x.node, .int .i64 x.power] 57 (0, 0))) (hl : l.length + 1 ≤ 1000) (hbase : base ≤ w.heap.size)
    (hK : ∀ A' c' w', ORow w' base 57 2 A' c' (l.length + 1) (srcCell (l ++ [x])) → Grows w w' base 57 → wpList Try.prog ops Q rest (a.put o.dst (.slice A' (l.length + 1) c')) w') : wpList Try.prog ops Q (o :: rest) a w := by
  obtain ⟨h1, h2⟩ := cells_src (x := x) (Eq.refl l.length)
  refine app_more w 23 57 2 16 copyS hg s x' ho base A c l.length _ _ hs h h1 xb hx (by rw [h2]; exact hh) (fun u hu => ?_) hl (by decide) hbase hK
  have : u ∈ (#[.int .i64 x.node, .int .i64 x.power] : Array Value) := by rw [← h2]; simpa using hu
  simp at this
  rcases this with rfl | rfl <;> rfl
theorem app_user (w : World) (hg : o.guard = none) (s x' : Operand) (ho : o.op = .call { callee := .builtin .append, args := #[s, x'], argTypes := #[24, 24] }) (base : Nat) (A : Option Addr) (c : Nat) (l : List MUser) (x : MUser)
    (hs : a.eval s = .slice A l.length c) (h : ORow w base 55 3 A c l.length (userCell l)) (xb : Nat) (hx : a.eval x' = .slice (some ⟨xb, 0, none⟩) 1 1)
    (hh : w.heap[xb]? = some (.cells #[.int .i64 x.node, .int .i64 x.power, .int .i64 x.level] 55 (0, 0))) (hl : l.length + 1 ≤ 1000) (hbase : base ≤ w.heap.size)
    (hK : ∀ A' c' w', ORow w' base 55 3 A' c' (l.length + 1) (userCell (l ++ [x])) → Grows w w' base 55 → wpList Try.prog ops Q rest (a.put o.dst (.slice A' (l.length + 1) c')) w') : wpList Try.prog ops Q (o :: rest) a w := by
  obtain ⟨h1, h2⟩ := cells_user (x := x) (Eq.refl l.length)
  refine app_more w 24 55 3 24 copyU hg s x' ho base A c l.length _ _ hs h h1 xb hx (by rw [h2]; exact hh) (fun u hu => ?_) hl (by decide) hbase hK
  have : u ∈ (#[.int .i64 x.node, .int .i64 x.power, .int .i64 x.level] : Array Value) := by rw [← h2]; simpa using hu
  simp at this
  rcases this with rfl | rfl | rfl <;> rfl
end
set_option maxRecDepth 100000 in
set_option maxHeartbeats 4000000 in
theorem clone76_any (A : Option Addr) (m c : Nat) (f : Nat → Nat → Value) (w : World) (h : SlA w w.heap.size 4 A m f) (hl : m ≤ 1000) :
    Calls Try.prog 76 #[.slice A m c] w fun e w' => ∃ A' c', e = .returned (.slice A' m c') ∧ ORow w' w.heap.size 67 4 A' c' m f ∧ Below w.heap.size w w' := by
  rcases A with _ | ad
  · have hm : m = 0 := by
      rcases Nat.eq_zero_or_pos m with hm | hm
      · exact hm
      · obtain ⟨b, off, hA, _⟩ := h hm
        cases hA
    subst hm
    clear h hl
    have hnl := fun (w : World) (a : Option Addr) (l c : Nat) => Lib.run_eql_slice_nil (P := Try.prog) w 22 67 a l c 0 0 copyL.und
    go_enter Try.func76, Try.ntmps76
    go_wp2_with fail
    go_ret
    exact ⟨none, 0, rfl, .inl ⟨rfl, rfl⟩, Below.refl _ _⟩
  · have HS : Hid (SlA (w.alloc (.cells #[] 67)) (w.alloc (.cells #[] 67)).heap.size 4 (some ad) m f) := (h.below ((Below.refl _ _).alloc (Nat.le_refl _) _) (Nat.le_refl _)).more' (by simp)
    have HB0 : Hid (Below w.heap.size w (w.alloc (.cells #[] 67))) := (Below.refl _ _).alloc (Nat.le_refl _) _
    have hml : m ≤ maxLen := by unfold maxLen; omega
    clear h
    have hnl := fun (w : World) (a : Option Addr) (l c : Nat) => Lib.run_eql_slice_nil (P := Try.prog) w 22 67 a l c 0 0 copyL.und
    go_enter Try.func76, Try.ntmps76
    go_wp2_with (at_builtin; refine wpList_copy_o _ 22 67 4 32 copyL rfl _ _ rfl w.heap.size rfl (some ad) m c f rfl HS.out hml (by omega) ?_; intro A6 c6 w6 ho6 hb6; have HO6 := Lib.hid ho6; have HB6 := Lib.hid hb6; clear ho6 hb6)
    go_ret
    exact ⟨A6, c6, rfl, HO6.out.base HB0.out.size, bel_next HB0.out HB6.out⟩
set_option maxRecDepth 100000 in
set_option maxHeartbeats 4000000 in
theorem clone77_any (A : Option Addr) (m c : Nat) (f : Nat → Nat → Value) (w : World) (h : SlA w w.heap.size 2 A m f) (hl : m ≤ 1000) :
    Calls Try.prog 77 #[.slice A m c] w fun e w' => ∃ A' c', e = .returned (.slice A' m c') ∧ ORow w' w.heap.size 57 2 A' c' m f ∧ Below w.heap.size w w' := by
  rcases A with _ | ad
  · have hm : m = 0 := by
      rcases Nat.eq_zero_or_pos m with hm | hm
      · exact hm
      · obtain ⟨b, off, hA, _⟩ := h hm
        cases hA
    subst hm
    clear h hl
    have hnl := fun (w : World) (a : Option Addr) (l c : Nat) => Lib.run_eql_slice_nil (P := Try.prog) w 23 57 a l c 0 0 copyS.und
    go_enter Try.func77, Try.ntmps77
    go_wp2_with fail
    go_ret
    exact ⟨none, 0, rfl, .inl ⟨rfl, rfl⟩, Below.refl _ _⟩
  · have HS : Hid (SlA (w.alloc (.cells #[] 57)) (w.alloc (.cells #[] 57)).heap.size 2 (some ad) m f) := (h.below ((Below.refl _ _).alloc (Nat.le_refl _) _) (Nat.le_refl _)).more' (by simp)
    have HB0 : Hid (Below w.heap.size w (w.alloc (.cells #[] 57))) := (Below.refl _ _).alloc (Nat.le_refl _) _
    have hml : m ≤ maxLen := by unfold maxLen; omega
    clear h
    have hnl := fun (w : World) (a : Option Addr) (l c : Nat) => Lib.run_eql_slice_nil (P := Try.prog) w 23 57 a l c 0 0 copyS.und
    go_enter Try.func77, Try.ntmps77
    go_wp2_with (at_builtin; refine wpList_copy_o _ 23 57 2 16 copyS rfl _ _ rfl w.heap.size rfl (some ad) m c f rfl HS.out hml (by omega) ?_; intro A6 c6 w6 ho6 hb6; have HO6 := Lib.hid ho6; have HB6 := Lib.hid hb6; clear ho6 hb6)
    go_ret
    exact ⟨A6, c6, rfl, HO6.out.base HB0.out.size, bel_next HB0.out HB6.out⟩
set_option maxRecDepth 100000 in
set_option maxHeartbeats 4000000 in
theorem clone78_any (A : Option Addr) (m c : Nat) (f : Nat → Nat → Value) (w : World) (h : SlA w w.heap.size 3 A m f) (hl : m ≤ 1000) :
    Calls Try.prog 78 #[.slice A m c] w fun e w' => ∃ A' c', e = .returned (.slice A' m c') ∧ ORow w' w.heap.size 55 3 A' c' m f ∧ Below w.heap.size w w' := by
  rcases A with _ | ad
  · have hm : m = 0 := by
      rcases Nat.eq_zero_or_pos m with hm | hm
      · exact hm
      · obtain ⟨b, off, hA, _⟩ := h hm
        cases hA
    subst hm
    clear h hl
    have hnl := fun (w : World) (a : Option Addr) (l c : Nat) => Lib.run_eql_slice_nil (P := Try.prog) w 24 55 a l c 0 0 copyU.und
    go_enter Try.func78, Try.ntmps78
    go_wp2_with fail
    go_ret
    exact ⟨none, 0, rfl, .inl ⟨rfl, rfl⟩, Below.refl _ _⟩
  · have HS : Hid (SlA (w.alloc (.cells #[] 55)) (w.alloc (.cells #[] 55)).heap.size 3 (some ad) m f) := (h.below ((Below.refl _ _).alloc (Nat.le_refl _) _) (Nat.le_refl _)).more' (by simp)
    have HB0 : Hid (Below w.heap.size w (w.alloc (.cells #[] 55))) := (Below.refl _ _).alloc (Nat.le_refl _) _
    have hml : m ≤ maxLen := by unfold maxLen; omega
    clear h
    have hnl := fun (w : World) (a : Option Addr) (l c : Nat) => Lib.run_eql_slice_nil (P := Try.prog) w 24 55 a l c 0 0 copyU.und
    go_enter Try.func78, Try.ntmps78
    go_wp2_with (at_builtin; refine wpList_copy_o _ 24 55 3 24 copyU rfl _ _ rfl w.heap.size rfl (some ad) m c f rfl HS.out hml (by omega) ?_; intro A6 c6 w6 ho6 hb6; have HO6 := Lib.hid ho6; have HB6 := Lib.hid hb6; clear ho6 hb6)
    go_ret
    exact ⟨A6, c6, rfl, HO6.out.base HB0.out.size, bel_next HB0.out HB6.out⟩
end Go.Proofs.Ytegclodchhcbaaa
