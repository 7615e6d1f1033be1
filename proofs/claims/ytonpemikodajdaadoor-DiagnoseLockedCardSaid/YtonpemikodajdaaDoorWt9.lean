/- The watcher's stores: a counter, a calm, the tick. -/
import Derived.Test.YtonpemikodajdaaDoorWt6
namespace Go.Proofs.YtonpemikodajdaaDoor
open Go.RowKit

theorem RowC.keep {w w' : World} {B : Nat} {V : Value} {K : List (MCode × Value)} (h : RowC w B V K) (hh : ∀ g, V.ownBlock = some g → w'.heap[g]? = w.heap[g]?) : RowC w' B V K := by
  obtain ⟨h1, h2⟩ := h
  refine ⟨h1, ?_⟩
  rcases h2 with h2 | ⟨g, cap, cur, hv, hg, hb, r⟩
  · exact .inl h2
  · exact .inr ⟨g, cap, cur, hv, hg, (hh g (by rw [hv]; rfl)).trans hb, r⟩
theorem getD_set (l : List Int) (i j : Nat) (n : Int) (hi : i < l.length) : (l.set i n).getD j 0 = if j = i then n else l.getD j 0 := by
  rw [List.getD_eq_getElem?_getD, List.getElem?_set]
  by_cases h : i = j
  · subst h
    rw [if_pos rfl, if_pos hi, if_pos rfl]; rfl
  · rw [if_neg h, if_neg (fun e => h e.symm), List.getD_eq_getElem?_getD]
section
variable {w : World} {B wb : Nat} {A : Option Addr} {lc : Nat} {l : List MMon} {tick : Int} {cb : Nat} {ns : List Int} {kb : Nat} {cs : List Int} {V : Value} {K : List (MCode × Value)}
theorem WS.frameset (h : WS w B wb A lc l tick cb ns kb cs V K) {b : Nat} (hb : b = wb ∨ b = cb ∨ b = kb) (i : Nat) (u : Value) : ∀ p ∈ K, FrameU (w.setCell ⟨b, i, none⟩ u) (fun b => b ≠ wb ∧ b ≠ cb ∧ b ≠ kb ∧ some b ≠ V.ownBlock ∧ B ≤ b) p := fun p hp =>
  (h.frames p hp).keep (by simp) (fun b' _ hu => Below.heap_setCell w ⟨b, i, none⟩ _ b' (by rcases hb with rfl | rfl | rfl; exact hu.1; exact hu.2.1; exact hu.2.2.1)) (fun _ _ hu => hu)
theorem WS.rowset (h : WS w B wb A lc l tick cb ns kb cs V K) {b : Nat} (hb : b = wb ∨ b = cb ∨ b = kb) (i : Nat) (u : Value) : RowC (w.setCell ⟨b, i, none⟩ u) B V K :=
  h.row.keep fun g hg => Below.heap_setCell w ⟨b, i, none⟩ _ g (by
    have := h.vb g hg
    rcases hb with rfl | rfl | rfl
    · exact this.1
    · exact this.2.1
    · exact this.2.2)
theorem WS.setCnt (h : WS w B wb A lc l tick cb ns kb cs V K) (hns : ns.length = l.length) {i : Nat} (hi : i < l.length) (n : Int) : WS (w.setCell ⟨cb, i, none⟩ (.int .i64 n)) B wb A lc l tick cb (ns.set i n) kb cs V K := by
  refine ⟨(Below.heap_setCell w ⟨cb, i, none⟩ _ wb h.n1).trans h.hw, h.mons.below ((Below.refl B w).setCell h.bc _) (Nat.le_refl _), h.bw, h.bc, h.bk, h.n1, h.n2, h.n3, (h.cnt.set i _).congr fun j _ => ?_, h.clm.far (fun e => h.n3 e.symm) _, h.rowset (.inr (.inl rfl)) _ _, h.vb, h.frameset (.inr (.inl rfl)) _ _⟩
  rw [getD_set ns i j n (by omega)]
  split <;> rfl
theorem WS.setClm (h : WS w B wb A lc l tick cb ns kb cs V K) (hcs : cs.length = l.length) {i : Nat} (hi : i < l.length) (n : Int) : WS (w.setCell ⟨kb, i, none⟩ (.int .i64 n)) B wb A lc l tick cb ns kb (cs.set i n) V K := by
  refine ⟨(Below.heap_setCell w ⟨kb, i, none⟩ _ wb h.n2).trans h.hw, h.mons.below ((Below.refl B w).setCell h.bk _) (Nat.le_refl _), h.bw, h.bc, h.bk, h.n1, h.n2, h.n3, h.cnt.far h.n3 _, (h.clm.set i _).congr fun j _ => ?_, h.rowset (.inr (.inr rfl)) _ _, h.vb, h.frameset (.inr (.inr rfl)) _ _⟩
  rw [getD_set cs i j n (by omega)]
  split <;> rfl
theorem WS.setTick (h : WS w B wb A lc l tick cb ns kb cs V K) (t : Int) : WS (w.setCell ⟨wb, 1, none⟩ (.int .i64 t)) B wb A lc l t cb ns kb cs V K := by
  refine ⟨?_, h.mons.below ((Below.refl B w).setCell h.bw _) (Nat.le_refl _), h.bw, h.bc, h.bk, h.n1, h.n2, h.n3, h.cnt.far (fun e => h.n1 e.symm) _, h.clm.far (fun e => h.n2 e.symm) _, h.rowset (.inl rfl) _ _, h.vb, h.frameset (.inl rfl) _ _⟩
  rw [heap_setCell_same w wb 1 _ 88 _ h.hw]; rfl
end
end Go.Proofs.YtonpemikodajdaaDoor
