/- Walks: the reference's copied and begin. -/
import Derived.Test.YtonpemikodajdaaDoorMf
import Derived.Deep.Cut
import Derived.Deep.CutBlock
namespace Go.Proofs.YtonpemikodajdaaDoor
open Go.RowKit

/-- a memory in memory of the call's own, as a value -/
def MOwn (w : World) (B : Nat) (v : Value) (t : Int) (s : WSt) : Prop :=
  ∃ VC VK V K, v = .agg #[.int .i64 t, VC, VK, V] ∧ K.map Prod.fst = s.ks ∧ OutI w B VC s.ns ∧ OutI w B VK s.cs ∧ RowC w B V K ∧ (∀ g, VC.ownBlock = some g → VK.ownBlock ≠ some g) ∧ (∀ g, VC.ownBlock = some g → V.ownBlock ≠ some g) ∧ (∀ g, VK.ownBlock = some g → V.ownBlock ≠ some g) ∧
    ∀ p ∈ K, FrameU w (fun b => VC.ownBlock ≠ some b ∧ VK.ownBlock ≠ some b ∧ V.ownBlock ≠ some b ∧ B ≤ b) p
/-- .. stored into a new block -/
theorem MOwn.rs {w w' : World} {B : Nat} {v : Value} {t : Int} {s : WSt} (h : MOwn w B v t s) {mb : Nat} (hmb : w.heap.size ≤ mb) (hh : ∃ VC VK V, v = .agg #[.int .i64 t, VC, VK, V] ∧ w'.heap[mb]? = some (.cells #[.int .i64 t, VC, VK, V] 27 (0, 0))) (hb : Below w.heap.size w w') (hB : B ≤ w.heap.size) :
    ∃ VC VK V K, K.map Prod.fst = s.ks ∧ RS w' B mb t VC s.ns VK s.cs V K := by
  obtain ⟨VC, VK, V, K, rfl, h1, h2, h3, h4, h5, h6, h7, h8⟩ := h
  obtain ⟨_, _, _, e, hh⟩ := hh
  injection e with e
  simp only [Array.mk.injEq, List.cons.injEq, and_true, true_and] at e
  obtain ⟨rfl, rfl, rfl⟩ := e
  have l2 := own_block_lt h2
  have l3 := own_block_lt h3
  have l4 := own_block_lt h4
  exact ⟨VC, VK, V, K, h1, hh, by omega, own_below h2 hb (fun k hk => (l2 k hk).2), own_below h3 hb (fun k hk => (l3 k hk).2), own_below h4 hb (fun k hk => (l4 k hk).2), fun e => by have := (l2 _ e).2; omega, fun e => by have := (l3 _ e).2; omega, fun e => by have := (l4 _ e).2; omega, h5, h6, h7,
    fun p hp => (h8 p hp).keep hb.size (fun b hb' _ => hb.block b hb') (fun b hb' hu => ⟨by omega, hu.1, hu.2.1, hu.2.2.1, hu.2.2.2⟩)⟩
theorem RS.own {w : World} {B mb : Nat} {t : Int} {VC : Value} {ns : List Int} {VK : Value} {cs : List Int} {V : Value} {K : List (MCode × Value)} (h : RS w B mb t VC ns VK cs V K) : MOwn w B (.agg #[.int .i64 t, VC, VK, V]) t ⟨ns, cs, K.map Prod.fst⟩ :=
  ⟨VC, VK, V, K, rfl, rfl, h.cnt, h.clm, h.row, h.d1, h.d2, h.d3, fun p hp => (h.frames p hp).keep (Nat.le_refl _) (fun _ _ _ => rfl) (fun _ _ hu => hu.2)⟩
theorem MOwn.mem {w : World} {B : Nat} {v : Value} {t : Int} {s : WSt} (h : MOwn w B v t s) (hl : s.ks.length ≤ 1000000) : MemA w w.heap.size v t s := by
  obtain ⟨VC, VK, V, K, rfl, h1, h2, h3, h4, h5, h6, h7, h8⟩ := h
  have hlK : K.length = s.ks.length := by rw [← h1, List.length_map]
  obtain ⟨A, cap, e, hc⟩ := h4.lenV
  obtain ⟨A1, c1, e1, hc1, hI1⟩ := h2.reads
  obtain ⟨A2, c2, e2, hc2, hI2⟩ := h3.reads
  rw [e] at h4
  have hC := RowC.codes h4 h8 (by omega)
  rw [h1] at hC
  exact ⟨A1, c1, A2, c2, A, cap, by rw [e, e1, e2, hlK], hI1, hI2, hC, hc1, hc2, by omega⟩
theorem MOwn.below {w w' : World} {B B' : Nat} {v : Value} {t : Int} {s : WSt} (h : MOwn w B v t s) (hb : Below B' w w') (hB : w.heap.size ≤ B') : MOwn w' B v t s := by
  obtain ⟨VC, VK, V, K, rfl, h1, h2, h3, h4, h5, h6, h7, h8⟩ := h
  have l2 := own_block_lt h2
  have l3 := own_block_lt h3
  have l4 := own_block_lt h4
  exact ⟨VC, VK, V, K, rfl, h1, own_below h2 hb (fun k hk => by have := (l2 k hk).2; omega), own_below h3 hb (fun k hk => by have := (l3 k hk).2; omega), own_below h4 hb (fun k hk => by have := (l4 k hk).2; omega), h5, h6, h7, fun p hp => (h8 p hp).keep hb.size (fun b hb' _ => hb.block b (by omega)) (fun _ _ hu => hu)⟩
/-- append of a list of numbers to nil -/
theorem run_app_none (w : World) (ty : TypeId) (A : Option Addr) (c : Nat) : (Builtin.append_ #[24, 24] ty #[.slice none 0 0, .slice A 0 c]).run Tryd.prog w = .ok (.slice none 0 0) w := by
  obtain ⟨i0, hi, hz0, hz1, hz2⟩ := info_parts info_int
  rcases A with _ | ad
  · simp [Builtin.append_, run_underlying under_ints, sizeOf, typeInfo, hi, Builtin.lenOf, Builtin.firstCells]
  · have hl : (loadCells ad 0).run Tryd.prog w = .ok #[] w := by simpa using run_loadCells_list (P := Tryd.prog) w ad [] (by simp)
    simp [Builtin.append_, run_underlying under_ints, sizeOf, typeInfo, hi, Builtin.lenOf, Builtin.firstCells, hl]
set_option maxRecDepth 100000 in
theorem step_app_list {ops : Array Oper} {o : Oper} {a : Act} {Q' : Act → World → Prop} {Q : Exit → Act → World → Prop} {E : Prop} (w : World) (hg : o.guard = none) (s x : Operand) (ho : o.op = .call { callee := .builtin .append, args := #[s, x], argTypes := #[24, 24] }) (rb ro rc : Nat) (row : List Int)
    (hs : a.eval s = .slice none 0 0) (hx : a.eval x = .slice (some ⟨rb, ro, none⟩) row.length rc) (hr : IntsA w w.heap.size (some ⟨rb, ro, none⟩) row) (hl : 0 < row.length ∧ row.length ≤ 1000)
    (hK : ∀ g cap w', OutI w' w.heap.size (.slice (some ⟨g, 0, none⟩) row.length cap) row → row.length ≤ cap → w.grownBy w' none → g < w'.heap.size → Q' (a.put o.dst (.slice (some ⟨g, 0, none⟩) row.length cap)) w') :
    if Region.wanted o (yielded ops a.tmps) = true then Oper.wp Tryd.prog o a w Q' Q else E := by
  obtain ⟨i0, hi, hz0, hz1, hz2⟩ := info_parts info_int
  refine step_append_lies w hg s x 24 ho w.heap.size 3 i0 (.int .i64 0) 1 8 under_ints hi hz0 hz1 hz2 rfl (by decide) (.slice none 0 0) 0 [] hs (World.ownsRow_nil _ _ _ _) ⟨rb, ro, none⟩ row.length rc (row.map (Value.int .i64)) hx (by simp) ?_ ?_ hl.1 (by unfold maxLen; omega) (by omega) (Nat.le_refl _) w.heap.size rfl (fun g cap w' h1 h2 h3 h4 => ?_)
  · intro j u hj
    obtain ⟨b, off, e, hb, hc⟩ := hr.2 hl.1
    injection e with e
    injection e with e1 e2
    subst e1
    subst e2
    have hjl : j < row.length := by
      rcases Nat.lt_or_ge j row.length with hh | hh
      · exact hh
      · rw [List.getElem?_eq_none (by rw [List.length_map]; exact hh)] at hj; cases hj
    rw [add_none0, hc j hjl]
    rw [List.getElem?_map, List.getElem?_eq_getElem hjl] at hj
    injection hj with hj
    rw [← hj, List.getD_eq_getElem?_getD, List.getElem?_eq_getElem hjl]
    rfl
  · intro u hu
    obtain ⟨p, _, rfl⟩ := List.mem_map.1 hu
    rfl
  · rw [Nat.zero_add] at h1 ⊢
    rw [List.nil_append] at h1
    have hO : OutI w' w.heap.size (.slice (some ⟨g, 0, none⟩) row.length cap) row := h1
    have hcap : row.length ≤ cap := by
      obtain ⟨A, c, e, hc, _⟩ := hO.reads
      injection e with e1 e2 e3
      omega
    exact hK g cap w' hO hcap h2 h4
end Go.Proofs.YtonpemikodajdaaDoor
