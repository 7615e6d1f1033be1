/- Codes in memory of the call's own; append of one; slices.Insert at the end. -/
import Derived.Test.YtonpemikodajdaaDoorWt3
import Derived.Test.YtonpemikodajdaaDoorOk1
namespace Go.Proofs.YtonpemikodajdaaDoor
open Go.RowKit

/-- a code and its frame's value -/
def cells6 (p : MCode × Value) : List Value := [.int .i64 p.1.mon, .int .i64 p.1.first, .int .i64 p.1.last, .int .i64 p.1.count, p.2, .bool p.1.active]
def RowC (w : World) (base : Nat) (V : Value) (K : List (MCode × Value)) : Prop := w.ownsRow base 46 6 V K.length (K.flatMap cells6)
theorem cells6_len (K : List (MCode × Value)) : (K.flatMap cells6).length = K.length * 6 := by
  induction K with
  | nil => rfl
  | cons p r ih => rw [List.flatMap_cons, List.length_append, ih, List.length_cons]; show 6 + _ = _; omega
theorem cells6_at {K : List (MCode × Value)} {i j : Nat} {p : MCode × Value} (hp : K[i]? = some p) (hj : j < 6) : (K.flatMap cells6)[i * 6 + j]? = (cells6 p)[j]? := by
  induction K generalizing i with
  | nil => cases hp
  | cons q r ih =>
    rw [List.flatMap_cons]
    cases i with
    | zero =>
      simp only [List.getElem?_cons_zero, Option.some.injEq] at hp
      subst hp
      rw [List.getElem?_append_left (by show _ < 6; omega)]
      congr 1; omega
    | succ i =>
      rw [List.getElem?_append_right (by show 6 ≤ _; omega)]
      rw [show (i + 1) * 6 + j - (cells6 q).length = i * 6 + j by show _ - 6 = _; omega]
      exact ih (by simpa using hp)
theorem info_code : (Tryd.prog.info? 46).map (fun i => (i.zero, i.size, i.bytes)) = some (some (.agg #[.int .i64 0, .int .i64 0, .int .i64 0, .int .i64 0, .slice none 0 0, .bool false]), 6, 64) := by kernel_rfl
theorem under_codes : Tryd.prog.underlying 25 = some (.slice 46) := by kernel_rfl
/-- a frame in memory that U allows -/
def FrameU (w : World) (U : Nat → Prop) (p : MCode × Value) : Prop := ∃ A cap, p.2 = .slice A p.1.frame.length cap ∧ p.1.frame.length ≤ cap ∧ p.1.frame.length ≤ maxLen ∧ IntsU w U A p.1.frame
theorem FrameU.keep {w w' : World} {U U' : Nat → Prop} {p : MCode × Value} (h : FrameU w U p) (hs : w.heap.size ≤ w'.heap.size) (hk : ∀ b, b < w.heap.size → U b → w'.heap[b]? = w.heap[b]?) (hU : ∀ b, b < w.heap.size → U b → U' b) : FrameU w' U' p := by
  obtain ⟨A, cap, h1, h2, h3, h4⟩ := h
  exact ⟨A, cap, h1, h2, h3, h4.keep hs hk hU⟩
section
variable {ops : Array Oper} {rest : List Oper} {o : Oper} {a : Act} {Q : Exit → Act → World → Prop}
set_option maxRecDepth 100000 in
theorem app_code (w : World) (hg : o.guard = none) (s x : Operand) (ho : o.op = .call { callee := .builtin .append, args := #[s, x], argTypes := #[25, 25] }) (base : Nat) (V : Value) (K : List (MCode × Value))
    (hs : a.eval s = V) (hown : RowC w base V K) (nb : Nat) (hx : a.eval x = .slice (some ⟨nb, 0, none⟩) 1 1) (p : MCode × Value) (hp : p.2.oneCell' = true) (hc : ∀ j u, (cells6 p)[j]? = some u → w.cell? ⟨nb, j, none⟩ = some u) (hlen : K.length ≤ 1000000) (hbase : base ≤ w.heap.size)
    (hK : ∀ g cap w', RowC w' base (.slice (some ⟨g, 0, none⟩) (K.length + 1) cap) (K ++ [p]) → w.grownBy w' V.ownBlock → (V.ownBlock = some g ∨ g = w.heap.size) → wpList Tryd.prog ops Q rest (a.put o.dst (.slice (some ⟨g, 0, none⟩) (K.length + 1) cap)) w') : wpList Tryd.prog ops Q (o :: rest) a w := by
  obtain ⟨i0, hi, hz0, hz1, hz2⟩ := info_parts info_code
  refine wpList_append_lies w hg s x 25 ho base 46 i0 _ 6 64 under_codes hi hz0 hz1 hz2 rfl (by decide) V K.length _ hs hown ⟨nb, 0, none⟩ 1 1 (cells6 p) hx rfl ?_ ?_ (by omega) (by unfold maxLen; omega) (by omega) hbase w.heap.size rfl (fun g cap w' h1 h2 h3 _ => hK g cap w' ?_ h2 h3)
  · intro j u hj
    rw [add_none0, Nat.zero_add]
    exact hc j u hj
  · intro u hu
    unfold cells6 at hu
    simp only [List.mem_cons, List.not_mem_nil, or_false] at hu
    rcases hu with rfl | rfl | rfl | rfl | rfl | rfl
    all_goals first | rfl | exact hp
  · unfold RowC
    rw [List.flatMap_append, List.length_append]
    simpa using h1
end
theorem RowC.lenV {w : World} {base : Nat} {V : Value} {K : List (MCode × Value)} (h : RowC w base V K) : ∃ A cap, V = .slice A K.length cap ∧ K.length ≤ cap := by
  obtain ⟨_, h1⟩ := h
  rcases h1 with ⟨hv, h0⟩ | ⟨g, cap, cur, hv, hb, hh, hn, r⟩
  · exact ⟨none, 0, by rw [hv, h0], by omega⟩
  · exact ⟨_, cap, hv, hn⟩
set_option maxHeartbeats 1000000 in
theorem insert_end (V : Value) (K : List (MCode × Value)) (nb : Nat) (p : MCode × Value) (base : Nat) (w : World) (h : RowC w base V K) (hp : p.2.oneCell' = true) (hc : ∀ j u, (cells6 p)[j]? = some u → w.cell? ⟨nb, j, none⟩ = some u) (hlen : K.length ≤ 1000000) (hbase : base ≤ w.heap.size) :
    Calls Tryd.prog 114 #[V, .int .i64 K.length, .slice (some ⟨nb, 0, none⟩) 1 1] w fun e w' => (∃ g cap, e = .returned (.slice (some ⟨g, 0, none⟩) (K.length + 1) cap) ∧ RowC w' base (.slice (some ⟨g, 0, none⟩) (K.length + 1) cap) (K ++ [p]) ∧ (V.ownBlock = some g ∨ g = w.heap.size)) ∧ w.grownBy w' V.ownBlock := by
  obtain ⟨A, cap, rfl, hcap⟩ := h.lenV
  have hC := Lib.hid hc
  have H := Lib.hid h
  clear hc h
  go_enter Tryd.func114, Tryd.ntmps114
  go_wp2_with (at_builtin; refine app_code _ rfl _ _ rfl base (.slice A K.length cap) K rfl H.out nb rfl p hp hC.out hlen hbase ?_; intro g' cap' w' hR hg hat)
  all_goals go_ret
  · have e : cap = K.length := by omega
    rw [e] at hg hat
    exact ⟨⟨g', cap', rfl, hR, hat⟩, hg⟩
  · exact ⟨⟨g', cap', rfl, hR, hat⟩, hg⟩
end Go.Proofs.YtonpemikodajdaaDoor
