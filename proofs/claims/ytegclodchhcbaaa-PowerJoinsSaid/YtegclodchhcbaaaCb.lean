/- Walks: a list copied onto an empty one: lines, sources, users, faults. -/
import Derived.Test.YtegclodchhcbaaaCa
import Derived.Deep.RegionLawGrows
namespace Go.Proofs.Ytegclodchhcbaaa
open Go.RowKit

/-- the cells of m elements -/
def rowL (m size : Nat) (f : Nat → Nat → Value) : List Value := (List.range (m * size)).map fun q => f (q / size) (q % size)
theorem rowL_len (m size : Nat) (f : Nat → Nat → Value) : (rowL m size f).length = m * size := by unfold rowL; simp
theorem rowL_at {m size : Nat} {f : Nat → Nat → Value} {q : Nat} (hq : q < m * size) : (rowL m size f)[q]? = some (f (q / size) (q % size)) := by
  unfold rowL
  rw [List.getElem?_map, List.getElem?_range hq]; rfl
theorem rowL_ij {m size : Nat} {f : Nat → Nat → Value} {i j : Nat} (hi : i < m) (hj : j < size) : (rowL m size f)[i * size + j]? = some (f i j) := by
  have h1 : i * size + j < m * size := by
    have : (i + 1) * size ≤ m * size := Nat.mul_le_mul_right _ hi
    rw [Nat.succ_mul] at this
    omega
  rw [rowL_at h1]
  have h2 : (i * size + j) / size = i := by
    rw [Nat.mul_comm, Nat.mul_add_div (by omega), Nat.div_eq_of_lt hj, Nat.add_zero]
  have h3 : (i * size + j) % size = j := by
    rw [Nat.mul_comm, Nat.mul_add_mod, Nat.mod_eq_of_lt hj]
  rw [h2, h3]
/-- m elements in a block of the call's own -/
def RowO (w : World) (B : Nat) (e : TypeId) (size : Nat) (A : Option Addr) (m : Nat) (f : Nat → Nat → Value) : Prop :=
  0 < m → ∃ g C, A = some ⟨g, 0, none⟩ ∧ B ≤ g ∧ w.heap[g]? = some (.cells C e (0, 0)) ∧ m * size ≤ C.size ∧ ∀ i j, i < m → j < size → C[i * size + j]? = some (f i j)
theorem RowO.sl {w : World} {B size m : Nat} {e : TypeId} {A : Option Addr} {f : Nat → Nat → Value} (h : RowO w B e size A m f) : SlA w w.heap.size size A m f := fun hn => by
  obtain ⟨g, C, hA, _, hh, _, hc⟩ := h hn
  exact ⟨g, 0, hA, lt_of_cells hh, fun i j hi hj => by rw [Nat.zero_add, cell_of_row w g _ C e _ hh]; exact hc i j hi hj⟩
theorem RowO.keep {w w' : World} {B size m : Nat} {e : TypeId} {A : Option Addr} {f : Nat → Nat → Value} (h : RowO w B e size A m f) (hb : Below w.heap.size w w') : RowO w' B e size A m f := fun hn => by
  obtain ⟨g, C, hA, hB, hh, r⟩ := h hn
  exact ⟨g, C, hA, hB, (hb.block g (lt_of_cells hh)).trans hh, r⟩
theorem RowO.base {w : World} {B B' size m : Nat} {e : TypeId} {A : Option Addr} {f : Nat → Nat → Value} (h : RowO w B e size A m f) (hB : B' ≤ B) : RowO w B' e size A m f := fun hn => by
  obtain ⟨g, C, hA, h1, r⟩ := h hn
  exact ⟨g, C, hA, by omega, r⟩
theorem RowO.of_own {w : World} {B size m : Nat} {e : TypeId} {v : Value} {f : Nat → Nat → Value} (h : w.ownsRow B e size v m (rowL m size f)) : ∃ A c, v = .slice A m c ∧ m ≤ c ∧ RowO w B e size A m f := by
  obtain ⟨hl, h'⟩ := id h
  rcases h' with ⟨hv, h0⟩ | ⟨g, cap, cur, hv, hb, hh, hn, hm, hsz, htk⟩
  · exact ⟨none, 0, by rw [hv, h0], by omega, fun hn => by omega⟩
  · refine ⟨_, cap, hv, hn, fun _ => ⟨g, cur, rfl, hb, hh, by rw [hsz]; exact Nat.mul_le_mul_right _ hn, fun i j hi hj => ?_⟩⟩
    have h1 : i * size + j < m * size := by
      have : (i + 1) * size ≤ m * size := Nat.mul_le_mul_right _ hi
      rw [Nat.succ_mul] at this
      omega
    have h2 : (cur.toList.take (m * size))[i * size + j]? = (rowL m size f)[i * size + j]? := by rw [htk]
    rw [List.getElem?_take_of_lt h1, rowL_ij hi hj] at h2
    rw [← Array.getElem?_toList, h2]
theorem sl_cells {w : World} {B size m : Nat} {A : Option Addr} {f : Nat → Nat → Value} (h : SlA w B size A m f) (hm : 0 < m) (hs : 0 < size) : ∃ ad, A = some ad ∧ ∀ j u, (rowL m size f)[j]? = some u → w.cell? (ad.add j) = some u := by
  obtain ⟨b, off, hA, _, hc⟩ := h hm
  refine ⟨_, hA, fun j u hj => ?_⟩
  have hjm : j < m * size := by
    have := (List.getElem?_eq_some_iff.1 hj).1
    rwa [rowL_len] at this
  rw [rowL_at hjm] at hj
  rw [← hj, add_none0, ← hc (j / size) (j % size) (Nat.div_lt_of_lt_mul (by rw [Nat.mul_comm]; exact hjm)) (Nat.mod_lt _ hs), Nat.add_assoc, Nat.div_add_mod']
set_option maxRecDepth 100000 in
theorem run_copy (w : World) (t e ty : TypeId) (i : TypeInfo) (z : Value) (size bytes : Nat) (ht : Try.prog.underlying t = some (.slice e)) (hi : Try.prog.info? e = some i) (hz : i.zero = some z) (hsize : i.size = size) (hby : i.bytes = bytes) (hzs : z.cells.size = size) (hsz : 0 < size)
    (b : Nat) (A : Option Addr) (m c : Nat) (f : Nat → Nat → Value) (h : SlA w w.heap.size size A m f) (hl : m ≤ maxLen) (hm : m * bytes ≤ 140737488355328) :
    ∃ A' c' w', (Builtin.append_ #[t, t] ty #[.slice (some ⟨b, 0, none⟩) 0 0, .slice A m c]).run Try.prog w = .ok (.slice A' m c') w' ∧ m ≤ c' ∧ RowO w' w.heap.size e size A' m f ∧ Below w.heap.size w w' := by
  rcases Nat.eq_zero_or_pos m with rfl | hm0
  · refine ⟨some ⟨b, 0, none⟩, 0, w, ?_, Nat.le_refl _, fun h0 => (by omega), Below.refl _ _⟩
    rcases A with _ | ad
    · simp [Builtin.append_, run_underlying ht, sizeOf, typeInfo, hi, Builtin.lenOf, Builtin.firstCells, storeCells]
    · simp [Builtin.append_, run_underlying ht, sizeOf, typeInfo, hi, Builtin.lenOf, Builtin.firstCells, storeCells, loadCells, loadCellsFrom]
  · obtain ⟨ad, rfl, hc⟩ := sl_cells h hm0 hsz
    obtain ⟨v', w', hrun, r1, r2⟩ := run_append_arg_grows (P := Try.prog) w t ty e i z size bytes ht hi hz hsize hby hzs hsz ⟨b, 0, none⟩ 0 0 [] (by simp) (fun j u hj => by simp at hj) ad m c (rowL m size f) (rowL_len _ _ _) hc (by omega) (by omega) (by rw [Nat.zero_add]; exact hm)
    rw [Nat.zero_add, List.nil_append] at r1
    obtain ⟨A', c', rfl, h1, h2⟩ := RowO.of_own r1
    exact ⟨A', c', w', hrun, h1, h2, (Below.refl _ _).grown r2 (Nat.le_refl _) (fun k hk => by cases hk)⟩
theorem info_line : (Try.prog.info? 67).map (fun i => (i.zero, i.size, i.bytes)) = some (some (.agg #[.int .i64 0, .int .i64 0, .int .i64 0, .bool false]), 4, 32) := by kernel_rfl
theorem info_src : (Try.prog.info? 57).map (fun i => (i.zero, i.size, i.bytes)) = some (some (.agg #[.int .i64 0, .int .i64 0]), 2, 16) := by kernel_rfl
theorem info_user : (Try.prog.info? 55).map (fun i => (i.zero, i.size, i.bytes)) = some (some (.agg #[.int .i64 0, .int .i64 0, .int .i64 0]), 3, 24) := by kernel_rfl
theorem info_fault : (Try.prog.info? 41).map (fun i => (i.zero, i.size, i.bytes)) = some (some (.agg #[.int .i64 0, .int .i64 0]), 2, 16) := by kernel_rfl
/-- what is copied by an append onto an empty list -/
structure CopyT (t e : TypeId) (size bytes : Nat) : Prop where
  und : Try.prog.underlying t = some (.slice e)
  inf : ∃ i z, Try.prog.info? e = some i ∧ i.zero = some z ∧ i.size = size ∧ i.bytes = bytes ∧ z.cells.size = size
  pos : 0 < size
theorem copyL : CopyT 22 67 4 32 := ⟨by kernel_rfl, by obtain ⟨i, h1, h2, h3, h4⟩ := info_parts info_line; exact ⟨i, _, h1, h2, h3, h4, rfl⟩, by decide⟩
theorem copyS : CopyT 23 57 2 16 := ⟨by kernel_rfl, by obtain ⟨i, h1, h2, h3, h4⟩ := info_parts info_src; exact ⟨i, _, h1, h2, h3, h4, rfl⟩, by decide⟩
theorem copyU : CopyT 24 55 3 24 := ⟨by kernel_rfl, by obtain ⟨i, h1, h2, h3, h4⟩ := info_parts info_user; exact ⟨i, _, h1, h2, h3, h4, rfl⟩, by decide⟩
theorem copyF : CopyT 27 41 2 16 := ⟨by kernel_rfl, by obtain ⟨i, h1, h2, h3, h4⟩ := info_parts info_fault; exact ⟨i, _, h1, h2, h3, h4, rfl⟩, by decide⟩
theorem step_copy {ops : Array Oper} {o : Oper} {a : Act} {K : Act → World → Prop} {Q : Exit → Act → World → Prop} {E : Prop} (w : World) (t e : TypeId) (size bytes : Nat) (hT : CopyT t e size bytes) (hg : o.guard = none) (s x : Operand) (ho : o.op = .call { callee := .builtin .append, args := #[s, x], argTypes := #[t, t] })
    (b : Nat) (hs : a.eval s = .slice (some ⟨b, 0, none⟩) 0 0) (A : Option Addr) (m c : Nat) (f : Nat → Nat → Value) (hx : a.eval x = .slice A m c) (h : SlA w w.heap.size size A m f) (hl : m ≤ maxLen) (hm : m * bytes ≤ 140737488355328)
    (hK : ∀ A' c' w', m ≤ c' → RowO w' w.heap.size e size A' m f → Below w.heap.size w w' → K (a.put o.dst (.slice A' m c')) w') :
    if Region.wanted o (yielded ops a.tmps) = true then Oper.wp Try.prog o a w K Q else E := by
  rw [if_pos (by simp [Region.wanted, hg])]
  obtain ⟨i, z, h1, h2, h3, h4, h5⟩ := hT.inf
  obtain ⟨A', c', w', hrun, r1, r2, r3⟩ := run_copy w t e o.type i z size bytes hT.und h1 h2 h3 h4 h5 hT.pos b A m c f h hl hm
  unfold Oper.wp
  simp [execOp, ho, resolve, invoke, builtin, hs, hx, hrun, Result.andThen]
  exact hK A' c' w' r1 r2 r3
theorem wpList_copy {ops : Array Oper} {rest : List Oper} {o : Oper} {a : Act} {Q : Exit → Act → World → Prop} (w : World) (t e : TypeId) (size bytes : Nat) (hT : CopyT t e size bytes) (hg : o.guard = none) (s x : Operand) (ho : o.op = .call { callee := .builtin .append, args := #[s, x], argTypes := #[t, t] })
    (b : Nat) (hs : a.eval s = .slice (some ⟨b, 0, none⟩) 0 0) (A : Option Addr) (m c : Nat) (f : Nat → Nat → Value) (hx : a.eval x = .slice A m c) (h : SlA w w.heap.size size A m f) (hl : m ≤ maxLen) (hm : m * bytes ≤ 140737488355328)
    (hK : ∀ A' c' w', m ≤ c' → RowO w' w.heap.size e size A' m f → Below w.heap.size w w' → wpList Try.prog ops Q rest (a.put o.dst (.slice A' m c')) w') : wpList Try.prog ops Q (o :: rest) a w := by
  refine wpList_plain hg fun K hK' => ?_
  obtain ⟨i, z, h1, h2, h3, h4, h5⟩ := hT.inf
  obtain ⟨A', c', w', hrun, r1, r2, r3⟩ := run_copy w t e o.type i z size bytes hT.und h1 h2 h3 h4 h5 hT.pos b A m c f h hl hm
  unfold Oper.wp
  simp [execOp, ho, resolve, invoke, builtin, hs, hx, hrun, Result.andThen]
  exact hK' _ _ (hK A' c' w' r1 r2 r3)
end Go.Proofs.Ytegclodchhcbaaa
