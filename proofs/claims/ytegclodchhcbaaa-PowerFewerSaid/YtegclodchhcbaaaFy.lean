/- Walks: one wanted user less, as a step of a region. -/
import Derived.Test.YtegclodchhcbaaaFx
import Derived.Deep.RegionLaw
namespace Go.Proofs.Ytegclodchhcbaaa
open Go.RowKit

set_option maxRecDepth 100000 in
theorem step_erase {ops : Array Oper} {o : Oper} {a : Act} {K : Act → World → Prop} {Q : Exit → Act → World → Prop} {E : Prop} (w : World) (hg : o.guard = none) (s x : Operand) (ho : o.op = .call { callee := .builtin .append, args := #[s, x], argTypes := #[28, 28] }) (g cap k : Nat) (l : List Int)
    (hk : k < l.length) (hs : a.eval s = .slice (some ⟨g, 0, none⟩) k cap) (o2 m c : Nat) (hx : a.eval x = .slice (some ⟨g, o2, none⟩) m c) (hm : m = l.length - (k + 1)) (ho2 : m = 0 ∨ o2 = k + 1) (hown : OwnF w g 3 l.length (fun j => .int .i64 (l.getD j 0))) (hcap : l.length ≤ cap) (hl : l.length ≤ maxLen)
    (hK : IntsA (w.setCells g k ((l.drop (k + 1)).map (Value.int .i64))) (w.setCells g k ((l.drop (k + 1)).map (Value.int .i64))).heap.size (some ⟨g, 0, none⟩) (l.eraseIdx k) → K (a.put o.dst (.slice (some ⟨g, 0, none⟩) (k + m) cap)) (w.setCells g k ((l.drop (k + 1)).map (Value.int .i64)))) :
    if Region.wanted o (yielded ops a.tmps) = true then Oper.wp Try.prog o a w K Q else E := by
  obtain ⟨i0, hi, hz0, hz1, hz2⟩ := info_parts info_int
  have hdl : ((l.drop (k + 1)).map (Value.int .i64)).length = m * 1 := by rw [List.length_map, List.length_drop]; omega
  refine step_append_room hg s x 28 ho 3 i0 1 under_ints hi hz1 g 0 k cap hs ⟨g, o2, none⟩ m c ((l.drop (k + 1)).map (Value.int .i64)) hx hdl (fun j u hj => ?_) (fun u hu => ?_) (by omega) (fun j hj => ?_) ?_
  · have hjl : j < m := by
      have := (List.getElem?_eq_some_iff.1 hj).1
      omega
    rcases ho2 with h0 | rfl
    · omega
    · rw [add_none0, hown.cell (show k + 1 + j < l.length by omega)]
      rw [List.getElem?_map, List.getElem?_drop, List.getElem?_eq_getElem (show k + 1 + j < l.length by omega)] at hj
      rw [← hj, List.getD_eq_getElem?_getD, List.getElem?_eq_getElem (show k + 1 + j < l.length by omega)]
      rfl
  · obtain ⟨y, _, rfl⟩ := List.mem_map.1 hu
    rfl
  · rw [show 0 + k * 1 + j = k + j by omega]
    exact ⟨by rw [hown.cell (show k + j < l.length by omega)]; rfl, hown.frozen _⟩
  · rw [show 0 + k * 1 = k by omega]
    exact hK (erase_cells hown hk hl)
theorem RowO.but {w w' : World} {B size m : Nat} {e : TypeId} {A : Option Addr} {f : Nat → Nat → Value} (h : RowO w B e size A m f) (hk : ∀ b, B ≤ b → w'.heap[b]? = w.heap[b]?) : RowO w' B e size A m f := fun hn => by
  obtain ⟨g, C, hA, hB, hh, r⟩ := h hn
  exact ⟨g, C, hA, hB, (hk g hB).trans hh, r⟩
theorem OwnG.but {w w' : World} {B : Nat} {g : MGrid} {A1 A2 A3 : Option Addr} (h : OwnG w B g A1 A2 A3) (hk : ∀ b, B ≤ b → w'.heap[b]? = w.heap[b]?) : OwnG w' B g A1 A2 A3 := ⟨h.l.but hk, h.s.but hk, h.u.but hk⟩
end Go.Proofs.Ytegclodchhcbaaa
