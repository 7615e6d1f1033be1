/- More of what the walk of grow keeps. -/
import Derived.Test.YtonpemikodajdaaDoorGw0
namespace Go.Proofs.YtonpemikodajdaaDoor
open Go.RowKit

section
variable {w w' w'' : World} {B0 gp mb base : Nat} {A1 : Option Addr} {c1 : Nat} {A2 : Option Addr} {c2 : Nat} {c : MCase} {X X' : Nat → Prop} {v : Value} {F : List MFork} {fo : Option Nat}
theorem GS.lessX (h : GS w B0 gp mb base A1 c1 A2 c2 c X' v F) (hX : ∀ b, X b → X' b) : GS w B0 gp mb base A1 c1 A2 c2 c X v F :=
  ⟨h.own, h.tab, h.ca, h.t1, h.hm, h.hg, h.ne, h.bg, h.bm, h.bs, h.kn, h.out.reU (fun b _ hu => ⟨hu.1, fun hx => hu.2 (hX b hx)⟩), fun k hk hx => h.vX k hk (hX k hx), fun b hx => h.xs b (hX b hx)⟩
theorem Gr.rownew (h : Gr w w' gp mb fo) {row : Option Nat} (hg : w'.grownBy w'' row) (hr : ∀ k, row = some k → w.heap.size ≤ k) : Gr w w'' gp mb fo :=
  ⟨hg.os.trans h.os, hg.tape.trans h.tape, hg.output.trans h.output, Nat.le_trans h.size hg.size, fun k hk h1 h2 h3 => (hg.block k (by have := h.size; omega) (fun e => by have := hr k e.symm; omega)).trans (h.block k hk h1 h2 h3)⟩
theorem Gr.setnew (h : Gr w w' gp mb fo) {g j : Nat} (hg : fo = some g ∨ w.heap.size ≤ g) (u : Value) : Gr w (w'.setCell ⟨g, j, none⟩ u) gp mb fo :=
  ⟨h.os, h.tape, h.output, by simpa using h.size, fun k hk h1 h2 h3 => (Below.heap_setCell w' ⟨g, j, none⟩ u k (fun e => by
    have e : k = g := e
    subst e
    rcases hg with hg | hg
    · exact h3 hg.symm
    · omega)).trans (h.block k hk h1 h2 h3)⟩
/-- a row of ints that lies in a barred block is as it was -/
theorem OutI.gr {b0 : Nat} {vn : Value} {l : List Int} (h : OutI w b0 vn l) (hG : Gr w w' gp mb fo) (h1 : gp < b0) (h2 : mb < b0) (h3 : ∀ k, vn.ownBlock = some k → some k ≠ fo) : OutI w' b0 vn l := by
  have hlt := own_block_lt h
  obtain ⟨e1, e2⟩ := h
  refine ⟨e1, ?_⟩
  rcases e2 with e2 | ⟨g, cap, cur, hv, hb, hh, r⟩
  · exact .inl e2
  · have hob : vn.ownBlock = some g := by rw [hv]; rfl
    exact .inr ⟨g, cap, cur, hv, hb, by rw [hG.block g (hlt g hob).2 (by omega) (by omega) (h3 g hob)]; exact hh, r⟩
end
section
variable {ops : Array Oper} {rest : List Oper} {o : Oper} {a : Act} {Q : Exit → Act → World → Prop}
set_option maxRecDepth 100000 in
theorem app_int_at (w : World) (hg : o.guard = none) (s x : Operand) (ho : o.op = .call { callee := .builtin .append, args := #[s, x], argTypes := #[24, 24] }) (base : Nat) (v : Value) (l : List Int)
    (hs : a.eval s = v) (hown : OutI w base v l) (wb : Nat) (y : Int) (hx : a.eval x = .slice (some ⟨wb, 0, none⟩) 1 1) (hy : w.cell? ⟨wb, 0, none⟩ = some (.int .i64 y)) (hlen : l.length ≤ 1000000) (hbase : base ≤ w.heap.size)
    (hK : ∀ g cap w', OutI w' base (.slice (some ⟨g, 0, none⟩) (l.length + 1) cap) (l ++ [y]) → w.grownBy w' v.ownBlock → (v.ownBlock = some g ∨ g = w.heap.size) → g < w'.heap.size → wpList Tryd.prog ops Q rest (a.put o.dst (.slice (some ⟨g, 0, none⟩) (l.length + 1) cap)) w') : wpList Tryd.prog ops Q (o :: rest) a w := by
  obtain ⟨i0, hi, hz0, hz1, hz2⟩ := info_parts info_int
  refine wpList_append_lies w hg s x 24 ho base 3 i0 (.int .i64 0) 1 8 under_ints hi hz0 hz1 hz2 rfl (by decide) v l.length _ hs hown ⟨wb, 0, none⟩ 1 1 [.int .i64 y] hx rfl ?_ ?_ (by omega) (by unfold maxLen; omega) (by omega) hbase _ rfl (fun g cap w' h1 h2 h3 h4 => hK g cap w' ?_ h2 h3 h4)
  · intro j u hj
    cases j with
    | zero =>
      simp only [List.getElem?_cons_zero, Option.some.injEq] at hj
      subst hj
      exact hy
    | succ j => simp at hj
  · intro u hu
    simp only [List.mem_singleton] at hu
    subst hu
    rfl
  · unfold OutI
    rw [List.length_append, List.map_append]
    exact h1
end
theorem OutI.intsU {w : World} {b0 n cap : Nat} {A : Option Addr} {l : List Int} {U : Nat → Prop} (h : OutI w b0 (.slice A n cap) l) (hn : l.length = n) (hU : ∀ g, A = some ⟨g, 0, none⟩ → b0 ≤ g → U g) : IntsU w U A l := fun h0 => by
  obtain ⟨g, hA, hb, hO⟩ := h.ownF (by omega)
  exact ⟨g, 0, hA, hO.lt, hU g hA hb, fun i hi => by rw [Nat.zero_add]; exact hO.cell hi⟩
/-- the numbers of the forks below have got one more -/
theorem after_kid {w w7 w8 : World} {B0 gp mb base : Nat} {A1 : Option Addr} {c1 : Nat} {A2 : Option Addr} {c2 : Nat} {c : MCase} {X : Nat → Prop} {v7 : Value} {F7 : List MFork} {fo : Option Nat} {vn : Value} {g8 : Nat} {o : Obj} (hG : GS w7 B0 gp mb base A1 c1 A2 c2 c (fun k => X k ∨ vn.ownBlock = some k) v7 F7) (hb : ∀ k, vn.ownBlock = some k → base ≤ k ∧ w.heap.size ≤ k) (hR : Gr w w7 gp mb fo)
    (hg : (w7.alloc o).grownBy w8 vn.ownBlock) (hat : vn.ownBlock = some g8 ∨ g8 = (w7.alloc o).heap.size) (hlt : g8 < w8.heap.size) : GS w8 B0 gp mb base A1 c1 A2 c2 c (fun k => X k ∨ some g8 = some k) v7 F7 ∧ Gr w w8 gp mb fo := by
  have hal : Below w7.heap.size w7 (w7.alloc o) := (Below.refl _ _).alloc (Nat.le_refl _) _
  have hGa := hG.below hal (Nat.le_refl _)
  refine ⟨hGa.rowgrown hg (fun k hk => ⟨Or.inr hk, (hb k hk).1⟩) (fun b hx => ?_) (fun b hx => ?_), (hR.trans (Gr.of_below hal (Nat.le_refl _)) (OwnNew.refl _ _)).rownew hg fun k hk => (hb k hk).2⟩
  · rcases hx with hx | hx
    · exact .inl (.inl hx)
    · injection hx with hx
      subst hx
      rcases hat with hat | hat
      · exact .inl (.inr hat)
      · exact .inr (by omega)
  · rcases hx with hx | hx
    · have := hGa.xs b (.inl hx)
      have := hg.size
      omega
    · injection hx with hx
      omega
theorem kidsF_yes {G : Nat → Nat → List MFork} {outs : List Int} {s n o : Nat} (h : 0 < partS outs s o) : kidsF G outs s n (o + 1) = ((kidsF G outs s n o).1 ++ G (partS outs s o) (n + 1 + (kidsF G outs s n o).1.length), (kidsF G outs s n o).2 ++ [((n + 1 + (kidsF G outs s n o).1.length : Nat) : Int)]) := by rw [kidsF, if_pos h]
theorem kidsF_no {G : Nat → Nat → List MFork} {outs : List Int} {s n o : Nat} (h : ¬ 0 < partS outs s o) : kidsF G outs s n (o + 1) = ((kidsF G outs s n o).1, (kidsF G outs s n o).2 ++ [-1]) := by rw [kidsF, if_neg h]
theorem kidsF_mono (G : Nat → Nat → List MFork) (outs : List Int) (s n : Nat) (k : Nat) : ∀ d, (kidsF G outs s n k).1.length ≤ (kidsF G outs s n (k + d)).1.length
  | 0 => Nat.le_refl _
  | d + 1 => by
    have ih := kidsF_mono G outs s n k d
    rw [← Nat.add_assoc]
    by_cases h : 0 < partS outs s (k + d)
    · rw [kidsF_yes h, List.length_append]; omega
    · rw [kidsF_no h]; exact ih
theorem set_mid {F K : List MFork} (f f' : MFork) : (F ++ f :: K).set F.length f' = F ++ f' :: K := by
  rw [List.set_append_right _ _ (Nat.le_refl _), Nat.sub_self]
  rfl
theorem get_mid {F K : List MFork} (f : MFork) : (F ++ f :: K).getD F.length dFork = f := by
  rw [List.getD_eq_getElem?_getD, List.getElem?_append_right (Nat.le_refl _), Nat.sub_self]
  rfl
end Go.Proofs.YtonpemikodajdaaDoor
