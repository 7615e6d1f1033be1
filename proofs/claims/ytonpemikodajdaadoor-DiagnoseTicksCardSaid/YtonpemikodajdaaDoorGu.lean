/- Walks: grow, everyone, Guide. -/
import Derived.Test.YtonpemikodajdaaDoorGd
import Derived.Test.YtonpemikodajdaaDoorBst
import Derived.Deep.RegionLaw
import Derived.Deep.DeepCutAuto
import Derived.Test.YtonpemikodajdaaDoorCs
import Derived.Deep.RegionHeld3
/- What the walk of grow keeps. -/
namespace Go.Proofs.YtonpemikodajdaaDoor
open Go.RowKit

/-- the new world differs in the guide's box, in the map, in the forks' row, and in what is new -/
structure Gr (w w' : World) (gp mb : Nat) (fo : Option Nat) : Prop where
  os : w'.os = w.os
  tape : w'.tape = w.tape
  output : w'.output = w.output
  size : w.heap.size ≤ w'.heap.size
  block : ∀ k, k < w.heap.size → k ≠ gp → k ≠ mb → some k ≠ fo → w'.heap[k]? = w.heap[k]?
def OwnNew (w : World) (fo fo' : Option Nat) : Prop := fo' = fo ∨ ∃ g, fo' = some g ∧ w.heap.size ≤ g
section
variable {w w' w'' : World} {gp mb : Nat} {fo fo' : Option Nat}
theorem Gr.refl (w : World) (gp mb : Nat) (fo : Option Nat) : Gr w w gp mb fo := ⟨rfl, rfl, rfl, Nat.le_refl _, fun _ _ _ _ _ => rfl⟩
theorem Gr.trans (h : Gr w w' gp mb fo) (h' : Gr w' w'' gp mb fo') (hf : OwnNew w fo fo') : Gr w w'' gp mb fo :=
  ⟨h'.os.trans h.os, h'.tape.trans h.tape, h'.output.trans h.output, Nat.le_trans h.size h'.size, fun k hk h1 h2 h3 => (h'.block k (by have := h.size; omega) h1 h2 (fun e => by
    rcases hf with hf | ⟨g, hf, hg⟩
    · rw [hf] at e; exact h3 e
    · rw [hf] at e; injection e with e; omega)).trans (h.block k hk h1 h2 h3)⟩
theorem Gr.of_below {B : Nat} (hb : Below B w w') (hB : w.heap.size ≤ B) : Gr w w' gp mb fo := ⟨hb.os, hb.tape, hb.output, hb.size, fun k hk _ _ _ => hb.block k (by omega)⟩
theorem Gr.of_map (hg : w.grownBy w' (some mb)) : Gr w w' gp mb fo := ⟨hg.os, hg.tape, hg.output, hg.size, fun k hk _ h2 _ => hg.block k hk (fun e => h2 (by injection e))⟩
theorem Gr.of_row (hg : w.grownBy w' fo) : Gr w w' gp mb fo := ⟨hg.os, hg.tape, hg.output, hg.size, fun k hk _ _ h3 => hg.block k hk h3⟩
theorem Gr.below {B : Nat} (h : Gr w w' gp mb fo) (hB : B ≤ w.heap.size) (h1 : B ≤ gp) (h2 : B ≤ mb) (h3 : ∀ k, fo = some k → B ≤ k) : Below B w w' :=
  ⟨h.os, h.tape, h.output, h.size, fun k hk => h.block k (by omega) (by omega) (by omega) (fun e => by have := h3 k e.symm; omega)⟩
theorem OwnNew.refl (w : World) (fo : Option Nat) : OwnNew w fo fo := .inl rfl
theorem OwnNew.trans {fo'' : Option Nat} (h : OwnNew w fo fo') (h' : OwnNew w' fo' fo'') (hs : w.heap.size ≤ w'.heap.size) : OwnNew w fo fo'' := by
  rcases h' with h' | ⟨g, h1, h2⟩
  · rw [h']; exact h
  · exact .inr ⟨g, h1, by omega⟩
end
def gpF (A1 : Option Addr) (c1 : Nat) (A2 : Option Addr) (c2 : Nat) (c : MCase) (mb : Nat) (v : Value) (j : Nat) : Value :=
  if j = 0 then .slice A1 c.weights.length c1 else if j = 1 then .slice A2 c.tests.length c2 else if j = 2 then .map (some mb) else v
/-- a guide in its box, with its map and its forks; nothing of these lies in a block of X -/
structure GS (w : World) (B0 gp mb base : Nat) (A1 : Option Addr) (c1 : Nat) (A2 : Option Addr) (c2 : Nat) (c : MCase) (X : Nat → Prop) (v : Value) (F : List MFork) : Prop where
  own : OwnF w gp 94 4 (gpF A1 c1 A2 c2 c mb v)
  tab : TabW w
  ca : CaseA w B0 A1 A2 c
  t1 : 1 < B0
  hm : B0 ≤ mb
  hg : B0 ≤ gp
  ne : gp ≠ mb
  bg : gp < base
  bm : mb < base
  bs : base ≤ w.heap.size
  kn : KnM w mb c
  out : OutK w base (fun b => (b ≠ gp ∧ b ≠ mb) ∧ ¬ X b) v F
  vX : ∀ k, v.ownBlock = some k → ¬ X k
  xs : ∀ b, X b → b < w.heap.size
section
variable {w w' : World} {B0 gp mb base : Nat} {A1 : Option Addr} {c1 : Nat} {A2 : Option Addr} {c2 : Nat} {c : MCase} {X : Nat → Prop} {v : Value} {F : List MFork}
theorem GS.ge (h : GS w B0 gp mb base A1 c1 A2 c2 c X v F) : GE w B0 gp A1 c1 A2 c2 c := ⟨h.own.lt, h.tab, h.own.cell (j := 0) (by omega), h.own.cell (j := 1) (by omega), h.ca, h.t1, h.hg⟩
theorem GS.g2 (h : GS w B0 gp mb base A1 c1 A2 c2 c X v F) : w.cell? ⟨gp, 2, none⟩ = some (.map (some mb)) := h.own.cell (j := 2) (by omega)
theorem GS.g3 (h : GS w B0 gp mb base A1 c1 A2 c2 c X v F) : w.cell? ⟨gp, 3, none⟩ = some v := h.own.cell (j := 3) (by omega)
theorem GS.barred (h : GS w B0 gp mb base A1 c1 A2 c2 c X v F) : ∀ k, v.ownBlock = some k → (k ≠ gp ∧ k ≠ mb) ∧ ¬ X k := fun k hk => by
  have := (h.out.lt k hk).1
  have := h.bg
  have := h.bm
  exact ⟨by omega, h.vX k hk⟩
theorem GS.below (h : GS w B0 gp mb base A1 c1 A2 c2 c X v F) {B : Nat} (hb : Below B w w') (hB : w.heap.size ≤ B) : GS w' B0 gp mb base A1 c1 A2 c2 c X v F := by
  have h1 := h.own.lt
  have h2 := h.bs
  have h3 := h.kn.lt
  have h4 := h.tab.1
  exact ⟨h.own.below hb (by omega), h.tab.below hb (by omega), h.ca.below (hb.mono (B' := B0) (by have := h.hg; omega)) (Nat.le_refl _), h.t1, h.hm, h.hg, h.ne, h.bg, h.bm, Nat.le_trans h.bs hb.size, h.kn.below hb (by omega), h.out.keep hb.size (fun b hb' _ => hb.block b (by omega)) h.barred, h.vX, fun b hb' => Nat.lt_of_lt_of_le (h.xs b hb') hb.size⟩
theorem GS.grown (h : GS w B0 gp mb base A1 c1 A2 c2 c X v F) (hg : w.grownBy w' (some mb)) (hk : KnM w' mb c) : GS w' B0 gp mb base A1 c1 A2 c2 c X v F := by
  have h0 := h.ge.grown hg h.hm h.ne
  exact ⟨h.own.grown hg (fun e => h.ne (by injection e)), h0.tab, h0.ca, h.t1, h.hm, h.hg, h.ne, h.bg, h.bm, Nat.le_trans h.bs hg.size, hk, h.out.keep hg.size (fun b hb' hu => hg.block b hb' (fun e => hu.1.2 (by injection e))) h.barred, h.vX, fun b hb' => Nat.lt_of_lt_of_le (h.xs b hb') hg.size⟩
/-- the row of forks has grown, and the box has the new one -/
theorem GS.pushed (h : GS w B0 gp mb base A1 c1 A2 c2 c X v F) (hg : w.grownBy w' v.ownBlock) {v' : Value} {F' : List MFork} (ho : OutK w' base (fun b => (b ≠ gp ∧ b ≠ mb) ∧ ¬ X b) v' F') (hv' : ∀ k, v'.ownBlock = some k → ¬ X k) : GS (w'.setCell ⟨gp, 3, none⟩ v') B0 gp mb base A1 c1 A2 c2 c X v' F' := by
  have hlt := h.out.lt
  have hbg := h.bg
  have hbm := h.bm
  have hbs := h.bs
  have hB : Below base w w' := (Below.refl _ _).grown hg h.bs (fun k hk => (hlt k hk).1)
  have hn : ∀ {k}, k < base → some k ≠ v.ownBlock := fun {k} hk e => by have := (hlt k e.symm).1; omega
  have hb2 : Below gp w' (w'.setCell ⟨gp, 3, none⟩ v') := (Below.refl _ _).setCell (p := ⟨gp, 3, none⟩) (Nat.le_refl _) _
  have hh : ∀ b, b ≠ gp → (w'.setCell ⟨gp, 3, none⟩ v').heap[b]? = w'.heap[b]? := fun b hb => Below.heap_setCell w' ⟨gp, 3, none⟩ v' b hb
  refine ⟨((h.own.below hB (by omega)).set 3 v').congr fun j hj => ?_, ⟨by have := h.tab.1; have := hB.size; simp; omega, fun j hj => ?_⟩, ?_, h.t1, h.hm, h.hg, h.ne, h.bg, h.bm, by have := hB.size; simp; omega, (h.kn.below hB hbm).far (a := ⟨gp, 3, none⟩) (fun e => h.ne e.symm) _, ho.keep (by simp) (fun b _ hu => hh b hu.1.1) (fun k hk => ⟨by have := (ho.lt k hk).1; omega, hv' k hk⟩), hv', fun b hb' => by have := h.xs b hb'; have := hB.size; simp; omega⟩
  · unfold gpF
    rcases (show j = 0 ∨ j = 1 ∨ j = 2 ∨ j = 3 by omega) with rfl | rfl | rfl | rfl <;> rfl
  · have h1 := h.t1
    have h2 := h.hg
    exact (bcell hb2 1 j (by omega)).trans ((bcell hB 1 j (by omega)).trans (h.tab.2 j hj))
  · exact (h.ca.below (hB.mono (B' := B0) (by have := h.hg; omega)) (Nat.le_refl _)).below (hb2.mono (B' := B0) h.hg) (Nat.le_refl _)
/-- Next of one fork is stored in the row -/
theorem GS.nexted {g n cap : Nat} (h : GS w B0 gp mb base A1 c1 A2 c2 c X (.slice (some ⟨g, 0, none⟩) n cap) F) {i : Nat} (hi : i < F.length) (A : Option Addr) (nc : Nat) (l : List Int) (hl : IntsU w (fun b => ((b ≠ gp ∧ b ≠ mb) ∧ ¬ X b) ∧ some b ≠ some g) A l) (hc : l.length ≤ nc) :
    (∃ u, w.cell? ⟨g, i * 3 + 1, none⟩ = some u) ∧ w.frozen? ⟨g, i * 3 + 1, none⟩ = false ∧ GS (w.setCell ⟨g, i * 3 + 1, none⟩ (.slice A l.length nc)) B0 gp mb base A1 c1 A2 c2 c X (.slice (some ⟨g, 0, none⟩) n cap) (F.set i ⟨(F.getD i dFork).test, l, (F.getD i dFork).set⟩) := by
  obtain ⟨e1, e2, e3⟩ := h.out.setNext hi A nc l hl hc
  have hgb := (h.out.lt g rfl).1
  have hbg := h.bg
  have hbm := h.bm
  have hb2 : Below base w (w.setCell ⟨g, i * 3 + 1, none⟩ (.slice A l.length nc)) := (Below.refl _ _).setCell (p := ⟨g, i * 3 + 1, none⟩) hgb _
  exact ⟨e1, e2, h.own.far (p := ⟨g, i * 3 + 1, none⟩) (show gp ≠ g by omega) _, h.tab.below hb2 (by have := h.t1; have := h.hg; omega), h.ca.below (hb2.mono (B' := B0) (by have := h.hg; omega)) (Nat.le_refl _), h.t1, h.hm, h.hg, h.ne, h.bg, h.bm, by simpa using h.bs, h.kn.far (a := ⟨g, i * 3 + 1, none⟩) (show mb ≠ g by omega) _, e3, h.vX, fun b hb' => by simpa using h.xs b hb'⟩
end
theorem OutK.reU {w : World} {base : Nat} {U0 U1 : Nat → Prop} {v : Value} {F : List MFork} (h : OutK w base U0 v F) (hU : ∀ b, b < w.heap.size → U0 b → U1 b) : OutK w base U1 v F := by
  obtain ⟨pv, h1, h2⟩ := h
  exact ⟨pv, h1, fun i hi => (h2 i hi).keep (Nat.le_refl _) (fun _ _ _ => rfl) (fun b hb hu => ⟨hU b hb hu.1, hu.2⟩)⟩
section
variable {w w' : World} {B0 gp mb base : Nat} {A1 : Option Addr} {c1 : Nat} {A2 : Option Addr} {c2 : Nat} {c : MCase} {X X' : Nat → Prop} {v : Value} {F : List MFork}
/-- a row in a barred block grows; what is new may be barred, too -/
theorem GS.rowgrown (h : GS w B0 gp mb base A1 c1 A2 c2 c X v F) {row : Option Nat} (hg : w.grownBy w' row) (hr : ∀ k, row = some k → X k ∧ base ≤ k) (hX : ∀ b, X' b → X b ∨ w.heap.size ≤ b) (hxs : ∀ b, X' b → b < w'.heap.size) : GS w' B0 gp mb base A1 c1 A2 c2 c X' v F := by
  have hbg := h.bg
  have hbm := h.bm
  have hB : Below base w w' := (Below.refl _ _).grown hg h.bs (fun k hk => (hr k hk).2)
  have hvl := h.out.lt
  obtain ⟨pv, h1, h2⟩ := h.out
  refine ⟨h.own.below hB hbg, h.tab.below hB (by have := h.t1; have := h.hg; omega), h.ca.below (hB.mono (B' := B0) (by have := h.hg; omega)) (Nat.le_refl _), h.t1, h.hm, h.hg, h.ne, h.bg, h.bm, Nat.le_trans h.bs hg.size, h.kn.below hB hbm,
    ⟨pv, ?_, fun i hi => (h2 i hi).keep hg.size (fun b hb' hu => hg.block b hb' (fun e => hu.1.2 (hr b e.symm).1)) (fun b hb hu => ⟨⟨hu.1.1, fun hx => ?_⟩, hu.2⟩)⟩, fun k hk hx => ?_, hxs⟩
  · obtain ⟨e1, e2⟩ := h1
    refine ⟨e1, ?_⟩
    rcases e2 with e2 | ⟨g, cap, cur, hgv, hb, hh, r⟩
    · exact .inl e2
    · have hob : v.ownBlock = some g := by rw [hgv]; rfl
      exact .inr ⟨g, cap, cur, hgv, hb, by rw [hg.block g (hvl g hob).2 (fun e => h.vX g hob (hr g e.symm).1)]; exact hh, r⟩
  · rcases hX b hx with hx | hx
    · exact hu.1.2 hx
    · omega
  · rcases hX k hx with hx | hx
    · exact h.vX k hk hx
    · have := (hvl k hk).2; omega
end
theorem list_u (s : Nat) (w : World) (hs : s < 4096) (hT : TabW w) {n : Nat} (hn : (bitsI s).length = n) :
    Calls Tryd.prog 65 #[.int .u64 s] w fun e w' => ∃ Lb lc, e = .returned (.slice Lb n lc) ∧ n ≤ lc ∧ IntsU w' (fun b => w.heap.size ≤ b) Lb (bitsI s) ∧ Below w.heap.size w w' :=
  (list_any s w hs hT).mono fun e w' ⟨v, he, hO, hb⟩ => by
    obtain ⟨Lb, lc, rfl, hlc, _⟩ := hO.reads
    refine ⟨Lb, lc, by rw [he, hn], by omega, fun h0 => ?_, hb⟩
    obtain ⟨g, hA, hg, hO⟩ := hO.ownF h0
    exact ⟨g, 0, hA, hO.lt, hg, fun i hi => by rw [Nat.zero_add]; exact hO.cell hi⟩
end Go.Proofs.YtonpemikodajdaaDoor

/- More of what the walk of grow keeps. -/
namespace Go.Proofs.YtonpemikodajdaaDoor
open Go.RowKit

section
variable {w w' w'' : World} {B0 gp mb base : Nat} {A1 : Option Addr} {c1 : Nat} {A2 : Option Addr} {c2 : Nat} {c : MCase} {X X' : Nat → Prop} {v : Value} {F : List MFork} {fo : Option Nat}
theorem GS.lessX (h : GS w B0 gp mb base A1 c1 A2 c2 c X' v F) (hX : ∀ b, X b → X' b) : GS w B0 gp mb base A1 c1 A2 c2 c X v F :=
  ⟨h.own, h.tab, h.ca, h.t1, h.hm, h.hg, h.ne, h.bg, h.bm, h.bs, h.kn, h.out.reU (fun b _ hu => ⟨hu.1, fun hx => hu.2 (hX b hx)⟩), fun k hk hx => h.vX k hk (hX k hx), fun b hx => h.xs b (hX b hx)⟩
theorem Gr.rownew (h : Gr w w' gp mb fo) {row : Option Nat} (hg : w'.grownBy w'' row) (hr : ∀ k, row = some k → w.heap.size ≤ k) : Gr w w'' gp mb fo :=
  ⟨hg.os.trans h.os, hg.tape.trans h.tape, hg.output.trans h.output, Nat.le_trans h.size hg.size, fun k hk h1 h2 h3 => (hg.block k (by have := h.size; omega) (fun e => by have := hr k e.symm; omega)).trans (h.block k hk h1 h2 h3)⟩
theorem Gr.setnew (h : Gr w w' gp mb fo) {g j : Nat} (hg : fo = some g ∨ w.heap.size ≤ g) (u : Value) : Gr w (w'.setCell ⟨g, j, none⟩ u) gp mb fo :=
  ⟨h.os, h.tape, h.output, by simpa using h.size, fun k hk h1 h2 h3 => (Below.heap_setCell w' ⟨g, j, none⟩ u k (fun e => by
    have e : k = g := e
    subst e
    rcases hg with hg | hg
    · exact h3 hg.symm
    · omega)).trans (h.block k hk h1 h2 h3)⟩
/-- a row of ints that lies in a barred block is as it was -/
theorem OutI.gr {b0 : Nat} {vn : Value} {l : List Int} (h : OutI w b0 vn l) (hG : Gr w w' gp mb fo) (h1 : gp < b0) (h2 : mb < b0) (h3 : ∀ k, vn.ownBlock = some k → some k ≠ fo) : OutI w' b0 vn l := by
  have hlt := own_block_lt h
  obtain ⟨e1, e2⟩ := h
  refine ⟨e1, ?_⟩
  rcases e2 with e2 | ⟨g, cap, cur, hv, hb, hh, r⟩
  · exact .inl e2
  · have hob : vn.ownBlock = some g := by rw [hv]; rfl
    exact .inr ⟨g, cap, cur, hv, hb, by rw [hG.block g (hlt g hob).2 (by omega) (by omega) (h3 g hob)]; exact hh, r⟩
end
section
variable {ops : Array Oper} {rest : List Oper} {o : Oper} {a : Act} {Q : Exit → Act → World → Prop}
set_option maxRecDepth 100000 in
theorem app_int_at (w : World) (hg : o.guard = none) (s x : Operand) (ho : o.op = .call { callee := .builtin .append, args := #[s, x], argTypes := #[24, 24] }) (base : Nat) (v : Value) (l : List Int)
    (hs : a.eval s = v) (hown : OutI w base v l) (wb : Nat) (y : Int) (hx : a.eval x = .slice (some ⟨wb, 0, none⟩) 1 1) (hy : w.cell? ⟨wb, 0, none⟩ = some (.int .i64 y)) (hlen : l.length ≤ 1000000) (hbase : base ≤ w.heap.size)
    (hK : ∀ g cap w', OutI w' base (.slice (some ⟨g, 0, none⟩) (l.length + 1) cap) (l ++ [y]) → w.grownBy w' v.ownBlock → (v.ownBlock = some g ∨ g = w.heap.size) → g < w'.heap.size → wpList Tryd.prog ops Q rest (a.put o.dst (.slice (some ⟨g, 0, none⟩) (l.length + 1) cap)) w') : wpList Tryd.prog ops Q (o :: rest) a w := by
  obtain ⟨i0, hi, hz0, hz1, hz2⟩ := info_parts info_int
  refine wpList_append_lies w hg s x 24 ho base 3 i0 (.int .i64 0) 1 8 under_ints hi hz0 hz1 hz2 rfl (by decide) v l.length _ hs hown ⟨wb, 0, none⟩ 1 1 [.int .i64 y] hx rfl ?_ ?_ (by omega) (by unfold maxLen; omega) (by omega) hbase _ rfl (fun g cap w' h1 h2 h3 h4 => hK g cap w' ?_ h2 h3 h4)
  · intro j u hj
    cases j with
    | zero =>
      simp only [List.getElem?_cons_zero, Option.some.injEq] at hj
      subst hj
      exact hy
    | succ j => simp at hj
  · intro u hu
    simp only [List.mem_singleton] at hu
    subst hu
    rfl
  · unfold OutI
    rw [List.length_append, List.map_append]
    exact h1
end
theorem OutI.intsU {w : World} {b0 n cap : Nat} {A : Option Addr} {l : List Int} {U : Nat → Prop} (h : OutI w b0 (.slice A n cap) l) (hn : l.length = n) (hU : ∀ g, A = some ⟨g, 0, none⟩ → b0 ≤ g → U g) : IntsU w U A l := fun h0 => by
  obtain ⟨g, hA, hb, hO⟩ := h.ownF (by omega)
  exact ⟨g, 0, hA, hO.lt, hU g hA hb, fun i hi => by rw [Nat.zero_add]; exact hO.cell hi⟩
/-- the numbers of the forks below have got one more -/
theorem after_kid {w w7 w8 : World} {B0 gp mb base : Nat} {A1 : Option Addr} {c1 : Nat} {A2 : Option Addr} {c2 : Nat} {c : MCase} {X : Nat → Prop} {v7 : Value} {F7 : List MFork} {fo : Option Nat} {vn : Value} {g8 : Nat} {o : Obj} (hG : GS w7 B0 gp mb base A1 c1 A2 c2 c (fun k => X k ∨ vn.ownBlock = some k) v7 F7) (hb : ∀ k, vn.ownBlock = some k → base ≤ k ∧ w.heap.size ≤ k) (hR : Gr w w7 gp mb fo)
    (hg : (w7.alloc o).grownBy w8 vn.ownBlock) (hat : vn.ownBlock = some g8 ∨ g8 = (w7.alloc o).heap.size) (hlt : g8 < w8.heap.size) : GS w8 B0 gp mb base A1 c1 A2 c2 c (fun k => X k ∨ some g8 = some k) v7 F7 ∧ Gr w w8 gp mb fo := by
  have hal : Below w7.heap.size w7 (w7.alloc o) := (Below.refl _ _).alloc (Nat.le_refl _) _
  have hGa := hG.below hal (Nat.le_refl _)
  refine ⟨hGa.rowgrown hg (fun k hk => ⟨Or.inr hk, (hb k hk).1⟩) (fun b hx => ?_) (fun b hx => ?_), (hR.trans (Gr.of_below hal (Nat.le_refl _)) (OwnNew.refl _ _)).rownew hg fun k hk => (hb k hk).2⟩
  · rcases hx with hx | hx
    · exact .inl (.inl hx)
    · injection hx with hx
      subst hx
      rcases hat with hat | hat
      · exact .inl (.inr hat)
      · exact .inr (by omega)
  · rcases hx with hx | hx
    · have := hGa.xs b (.inl hx)
      have := hg.size
      omega
    · injection hx with hx
      omega
theorem kidsF_yes {G : Nat → Nat → List MFork} {outs : List Int} {s n o : Nat} (h : 0 < partS outs s o) : kidsF G outs s n (o + 1) = ((kidsF G outs s n o).1 ++ G (partS outs s o) (n + 1 + (kidsF G outs s n o).1.length), (kidsF G outs s n o).2 ++ [((n + 1 + (kidsF G outs s n o).1.length : Nat) : Int)]) := by rw [kidsF, if_pos h]
theorem kidsF_no {G : Nat → Nat → List MFork} {outs : List Int} {s n o : Nat} (h : ¬ 0 < partS outs s o) : kidsF G outs s n (o + 1) = ((kidsF G outs s n o).1, (kidsF G outs s n o).2 ++ [-1]) := by rw [kidsF, if_neg h]
theorem kidsF_mono (G : Nat → Nat → List MFork) (outs : List Int) (s n : Nat) (k : Nat) : ∀ d, (kidsF G outs s n k).1.length ≤ (kidsF G outs s n (k + d)).1.length
  | 0 => Nat.le_refl _
  | d + 1 => by
    have ih := kidsF_mono G outs s n k d
    rw [← Nat.add_assoc]
    by_cases h : 0 < partS outs s (k + d)
    · rw [kidsF_yes h, List.length_append]; omega
    · rw [kidsF_no h]; exact ih
theorem set_mid {F K : List MFork} (f f' : MFork) : (F ++ f :: K).set F.length f' = F ++ f' :: K := by
  rw [List.set_append_right _ _ (Nat.le_refl _), Nat.sub_self]
  rfl
theorem get_mid {F K : List MFork} (f : MFork) : (F ++ f :: K).getD F.length dFork = f := by
  rw [List.getD_eq_getElem?_getD, List.getElem?_append_right (Nat.le_refl _), Nat.sub_self]
  rfl
end Go.Proofs.YtonpemikodajdaaDoor

/- A step of a region: the list of a set. -/
namespace Go.Proofs.YtonpemikodajdaaDoor
open Go.RowKit
theorem step_list {ops : Array Oper} {o : Oper} {a : Act} {K : Act → World → Prop} {Q : Exit → Act → World → Prop} {E : Prop} (w : World) (hg : o.guard = none) (x : Operand) (ho : o.op = .call { callee := .value (.func 65), args := #[x], argTypes := #[97] }) (s : Nat) (hx : a.eval x = .int .u64 (s : Int)) (hs : s < 4096) (hT : TabW w)
    (hK : ∀ Lb lc w2, (bitsI s).length ≤ lc → IntsU w2 (fun b => w.heap.size ≤ b) Lb (bitsI s) → Below w.heap.size w w2 → K (a.put o.dst (.slice Lb (bitsI s).length lc)) w2) :
    if Region.wanted o (yielded ops a.tmps) = true then Oper.wp Tryd.prog o a w K Q else E := by
  rw [if_pos (by simp [Region.wanted, hg])]
  have hC := list_u s w hs hT rfl
  have hf : a.eval (.func 65) = .func (.func 65) #[] #[] := rfl
  unfold Oper.wp execOp
  simp only [ho, resolve, invoke, Sem.run_bind, List.map_toArray, List.map_cons, List.map_nil, hx, hf]
  simp [go_sem]
  refine hC.mono ?_
  rintro e w2 ⟨Lb, lc, rfl, hlc, hL, hb⟩
  exact hK Lb lc w2 hlc hL hb
end Go.Proofs.YtonpemikodajdaaDoor

/- Walks: the tree that grows from a set. -/
namespace Go.Proofs.YtonpemikodajdaaDoor
open Go.RowKit

theorem GS.box {w w' : World} {B0 gp mb base : Nat} {A1 : Option Addr} {c1 : Nat} {A2 : Option Addr} {c2 : Nat} {c : MCase} {X : Nat → Prop} {v : Value} {F : List MFork} (h : GS w B0 gp mb base A1 c1 A2 c2 c X v F) (hg : w.grownBy w' v.ownBlock) : w'.cell? ⟨gp, 3, none⟩ = some v ∧ w'.frozen? ⟨gp, 3, none⟩ = false := by
  have hB : Below base w w' := (Below.refl _ _).grown hg h.bs (fun k hk => (h.out.lt k hk).1)
  have ho := h.own.below hB h.bg
  exact ⟨ho.cell (j := 3) (by omega), ho.frozen 3⟩
theorem new_fork {w1 w2 : World} {B0 gp mb base : Nat} {A1 : Option Addr} {c1 : Nat} {A2 : Option Addr} {c2 : Nat} {c : MCase} {X : Nat → Prop} {v : Value} {F : List MFork} (h : GS w1 B0 gp mb base A1 c1 A2 c2 c X v F) (_ : Below w1.heap.size w1 w2) {bt : Int} {l : List Int} {Lb : Option Addr} {lc : Nat} (hL : IntsU w2 (fun b => w1.heap.size ≤ b) Lb l) (hlc : l.length ≤ lc) (o : Obj) :
    ForkU (w2.alloc o) (fun b => ((b ≠ gp ∧ b ≠ mb) ∧ ¬ X b) ∧ some b ≠ v.ownBlock) ((none, 0), (Lb, lc)) ⟨bt, [], l⟩ := by
  have h1 := h.bg
  have h2 := h.bm
  have h3 := h.bs
  have h4 := h.out.lt
  refine ⟨fun h => by simp at h, Nat.le_refl _, hL.keep (by simp) (fun b hlt _ => Below.heap_alloc w2 o b hlt) (fun b _ hb => ⟨⟨⟨by omega, by omega⟩, fun hx => by have := h.xs b hx; omega⟩, fun e => ?_⟩), hlc⟩
  have := (h4 b e.symm).2
  omega
theorem own_notX {fo : Option Nat} {g H N : Nat} {X : Nat → Prop} (hv : ∀ k, fo = some k → ¬ X k) (hxs : ∀ b, X b → b < N) (hH : N ≤ H) (hat : fo = some g ∨ g = H) : ∀ k, some g = some k → ¬ X k := fun k hk hx => by
  injection hk with hk
  subst hk
  rcases hat with hat | hat
  · exact hv g hat hx
  · have := hxs g hx; omega
theorem Gr.setgp {w w' : World} {gp mb : Nat} {fo : Option Nat} (h : Gr w w' gp mb fo) (j : Nat) (u : Value) : Gr w (w'.setCell ⟨gp, j, none⟩ u) gp mb fo :=
  ⟨h.os, h.tape, h.output, by simpa using h.size, fun k hk h1 h2 h3 => (Below.heap_setCell w' ⟨gp, j, none⟩ u k h1).trans (h.block k hk h1 h2 h3)⟩
def GrowPost (w : World) (B0 gp mb base : Nat) (A1 : Option Addr) (c1 : Nat) (A2 : Option Addr) (c2 : Nat) (c : MCase) (X : Nat → Prop) (v : Value) (F : List MFork) (s : Nat) (e : Ending) (w' : World) : Prop :=
  e = .returned (.int .i64 F.length) ∧ ∃ v', GS w' B0 gp mb base A1 c1 A2 c2 c X v' (F ++ growS c s F.length) ∧ Gr w w' gp mb v.ownBlock ∧ OwnNew w v.ownBlock v'.ownBlock
set_option maxRecDepth 100000 in
set_option maxHeartbeats 4000000 in
theorem grow_step (B0 gp mb base : Nat) (A1 : Option Addr) (c1 : Nat) (A2 : Option Addr) (c2 : Nat) (c : MCase) (hc : caseB c = true) (s : Nat) (hs : s < 2 ^ c.weights.length)
    (ih : ∀ t, t < s → ∀ (X : Nat → Prop) (w : World) (v : Value) (F : List MFork), GS w B0 gp mb base A1 c1 A2 c2 c X v F → F.length + (growS c t F.length).length ≤ 1000000000 → Calls Tryd.prog 57 #[.pointer (some ⟨gp, 0, none⟩), .int .u64 t] w (GrowPost w B0 gp mb base A1 c1 A2 c2 c X v F t))
    (X : Nat → Prop) (w : World) (v : Value) (F : List MFork) (h : GS w B0 gp mb base A1 c1 A2 c2 c X v F) (hlen : F.length + (growS c s F.length).length ≤ 1000000000) : Calls Tryd.prog 57 #[.pointer (some ⟨gp, 0, none⟩), .int .u64 s] w (GrowPost w B0 gp mb base A1 c1 A2 c2 c X v F s) := by
  have hok := caseOk hc
  have hs12 := two12 hs hok.n2
  obtain ⟨Fa, fcap, hv, hfc⟩ := h.out.lenV
  have g3 := h.g3
  have hgl := h.own.lt
  have HC := Lib.hid hc
  have HSS := Lib.hid hs
  have HOK := Lib.hid hok
  have HIH := Lib.hid ih
  have HLEN := Lib.hid hlen
  have HGS := Lib.hid h
  have hcap := bestS_cap hok hs
  have HBS : Hid (∀ w1, GS w1 B0 gp mb base A1 c1 A2 c2 c X v F → Calls Tryd.prog 59 #[.pointer (some ⟨gp, 0, none⟩), .int .u64 s] w1 (BestPost w1 mb c s)) := fun w1 h1 => best_any B0 gp mb A1 c1 A2 c2 c hc h.hm h.ne s hs w1 h1.ge h1.g2 h1.kn
  rw [hv] at g3
  have HV := Lib.hid hv
  have hFl : F.length ≤ 1000000000 := by omega
  clear hok hs hc ih hlen h hv
  unfold BestPost at HBS
  obtain ⟨bt, hbt⟩ : ∃ x, (bestS c s).1 = x := ⟨_, rfl⟩
  have HBT := Lib.hid hbt
  rw [hbt] at HBS hcap
  generalize (bestS c s).2 = bc at *
  have j0 := fd0 (.int .i64 bt) (.int .i64 bc)
  clear hbt
  go_enter Tryd.func57, Tryd.ntmps57
  go_upto_region 3 with (go_at_call 59; refine (HBS.out _ HGS.out).mono ?_; rintro e w1 ⟨rfl, hk1, hg1⟩)
  have hG1 := HGS.out.grown hg1 hk1
  have hR1 : Gr w w1 gp mb v.ownBlock := Gr.of_map hg1
  have g31 := hG1.g3
  rw [HV.out] at g31
  have hgl1 := hG1.own.lt
  have hGd := hG1.below (Below.refl w1.heap.size w1).drew (Nat.le_refl _)
  have hs1 := hG1.bs
  have hbm := hG1.bm
  have hbg := hG1.bg
  have HFL : Hid (∀ k, v.ownBlock = some k → base ≤ k) := fun k hk => (hGd.out.lt k hk).1
  have hG1X := hG1.vX
  have hX1 := hG1.xs
  clear hk1 hg1 j0
  have HG1 := Lib.hid hG1
  clear hG1
  go_cut [21] (fun _ wx => ∃ g cap, GS wx B0 gp mb base A1 c1 A2 c2 c X (.slice (some ⟨g, 0, none⟩) (F.length + 1) cap) (F ++ [⟨bt, [], bitsI s⟩]) ∧ Gr w1 wx gp mb v.ownBlock ∧ OwnNew w1 v.ownBlock (some g))
  case first =>
    go_region_law ((first | (refine step_list _ (by rfl) _ (by rfl) s (by rfl) hs12 hGd.tab ?_; intro Lb lc w2 hlc hL hb2; have g32 := (bcell hb2 gp 3 hgl1).trans g31; have hs2 := hb2.size; simp at hs2; have g33 := fun o : Obj => (acell w2 o gp 3 (by omega)).trans g32) | (refine step_app_fork _ (by rfl) _ _ (by rfl) base (fun b => (b ≠ gp ∧ b ≠ mb) ∧ ¬ X b) v F (by rw [HV.out]; rfl) ((hGd.below hb2 (Nat.le_refl _)).below ((Below.refl _ _).alloc (Nat.le_refl _) _) (Nat.le_refl _)).out w2.heap.size (by rfl) ⟨bt, [], bitsI s⟩ ((none, 0), (Lb, lc)) (new_fork hGd hb2 hL hlc _) (newcell _ _ _ _) (newcell _ _ _ _) (newcell _ _ _ _) hFl (by simp; omega) _ (by rfl) ?_; intro g cap w6 hO6 hg6 hat6 hgl6; have hbx := ((hGd.below hb2 (Nat.le_refl _)).below ((Below.refl _ _).alloc (Nat.le_refl _) _) (Nat.le_refl _)).box hg6; have hP := ((hGd.below hb2 (Nat.le_refl _)).below ((Below.refl _ _).alloc (Nat.le_refl _) _) (Nat.le_refl _)).pushed hg6 hO6 (own_notX hG1X hX1 (by simp; omega) hat6); have hbx0 := hbx.1; rw [HV.out] at hbx0; have hbx1 := hbx.2)))
    all_goals
      go_wp2_with fail
      go_meet
      refine ⟨g, cap, hP, ?_, ?_⟩
      · exact (((Gr.of_below (((Below.refl w1.heap.size w1).drew.trans (hb2.mono (by simp))).alloc (by omega) _) (Nat.le_refl _)).trans (Gr.of_row hg6) (OwnNew.refl _ _)).setgp 3 _)
      · rcases hat6 with hat6 | hat6
        · exact .inl hat6.symm
        · exact .inr ⟨g, rfl, by simp at hat6; omega⟩
  case rest =>
    obtain ⟨g, cap, hP, hR3, hN3⟩ := hcut
    have hR4 : Gr w wc gp mb v.ownBlock := hR1.trans hR3 (OwnNew.refl _ _)
    have hN4 : OwnNew w v.ownBlock (some g) := (OwnNew.refl w _).trans hN3 hR1.size
    by_cases hb0 : bt < 0
    · go_wp2_with fail
      go_ret
      exact ⟨rfl, .slice (some ⟨g, 0, none⟩) (F.length + 1) cap, by rw [growS_leaf (by rw [HBT.out]; exact hb0), HBT.out]; exact hP, hR4, hN4⟩
    · have HGS2 : Hid (growS c s F.length = ⟨bt, (kidsF (growS c) (testAt c bt).outs s F.length 4).2, bitsI s⟩ :: (kidsF (growS c) (testAt c bt).outs s F.length 4).1) := by
        have := growS_fork (c := c) (n := F.length) hs12 (by rw [HBT.out]; exact hb0)
        rw [HBT.out] at this
        exact this
      have htw := bestS_parts hs12 (c := c) (by rw [HBT.out]; omega)
      rw [HBT.out] at htw
      have hbtn : bt.toNat < c.tests.length := by omega
      obtain ⟨pt, b, off, Ap, cp, ht, rfl, hblt, t0, t1, hcp, htp⟩ := hP.ca.ts.at_ (k := bt.toNat) hbtn
      have hgd : testAt c bt = pt := by unfold testAt; rw [List.getD_eq_getElem?_getD, ht]; rfl
      rw [hgd] at HGS2 htw
      have hprobe := HOK.out.p _ pt ht
      have g1c := hP.ge.g1
      have hbs := hP.bs
      have hB0 := hP.hg
      have hbgc := hP.bg
      have hbmc := hP.bm
      obtain ⟨x0, h0⟩ : ∃ x, partS pt.outs s 0 = x := ⟨_, rfl⟩
      obtain ⟨x1, h1⟩ : ∃ x, partS pt.outs s 1 = x := ⟨_, rfl⟩
      obtain ⟨x2, h2⟩ : ∃ x, partS pt.outs s 2 = x := ⟨_, rfl⟩
      obtain ⟨x3, h3⟩ : ∃ x, partS pt.outs s 3 = x := ⟨_, rfl⟩
      obtain ⟨R, hR⟩ : ∃ x, partsTo pt.outs s 4 = x := ⟨_, rfl⟩
      have HSP : Hid (Calls Tryd.prog 94 #[.agg #[.int .i64 pt.cost, .slice Ap pt.outs.length cp], .int .u64 s] wc fun e w' => e = .returned (.tuple #[.agg #[.int .u64 x0, .int .u64 x1, .int .u64 x2, .int .u64 x3], .int .i64 R]) ∧ Below wc.heap.size wc w') :=
        split_any pt Ap cp s c.weights.length _ hP.tab (htp.more (by omega)) hprobe.2.1 HOK.out.n2 hprobe.2.2 HSS.out h0 h1 h2 h3 hR
      have HX0 := Lib.hid h0
      have HX1 := Lib.hid h1
      have HX2 := Lib.hid h2
      have HX3 := Lib.hid h3
      have HTW := Lib.hid (fun o => partsTo_two (outs := pt.outs) (s := s) (o := o) (k := 4) htw)
      have HK4 : Hid (F.length + 1 + (kidsF (growS c) pt.outs s F.length 4).1.length ≤ 1000000000) := by
        show _ ≤ _
        have := HLEN.out
        rw [HGS2.out, List.length_cons] at this
        omega
      clear h0 h1 h2 h3 hR htw hgd ht htp hprobe HBS HBT
      go_wp2_with (go_at_call 94; refine HSP.out.mono ?_; rintro e w2 ⟨rfl, hb2⟩)
      have hb3 : Below wc.heap.size wc (w2.alloc (.cells #[.int .u64 x0, .int .u64 x1, .int .u64 x2, .int .u64 x3] 143)) := hb2.alloc hb2.size _
      have hG5 := hP.below hb3 (Nat.le_refl _)
      have hR5 : Gr w (w2.alloc (.cells #[.int .u64 x0, .int .u64 x1, .int .u64 x2, .int .u64 x3] 143)) gp mb v.ownBlock := hR4.trans (Gr.of_below hb3 (Nat.le_refl _)) (OwnNew.refl _ _)
      generalize w2.alloc (.cells #[.int .u64 x0, .int .u64 x1, .int .u64 x2, .int .u64 x3] 143) = W5 at *
      have hsw5 := hR5.size
      clear hb2 hb3 hP hR3 hN3 hR4 HSP t0 t1 g1c
      have hbs5 := hG5.bs
      go_loopw [9, 51] (fun vn vi wx => ∃ o : Nat, o ≤ 4 ∧ vi = .int .i64 o ∧ ∃ (v' : Value) (K : List MFork) (L : List Int), Hid (kidsF (growS c) pt.outs s F.length o = (K, L)) ∧ GS wx B0 gp mb base A1 c1 (some ⟨b, off, none⟩) c2 c (fun k => X k ∨ vn.ownBlock = some k) v' (F ++ ⟨bt, [], bitsI s⟩ :: K) ∧ OutI wx W5.heap.size vn L ∧ Gr w wx gp mb v.ownBlock ∧ OwnNew w v.ownBlock v'.ownBlock ∧ W5.heap.size ≤ wx.heap.size) (fun _ vi _ => 4 - (intOf vi).toNat)
      case atStart => exact ⟨0, Nat.zero_le _, rfl, _, [], [], rfl, hG5.lessX (fun b hb => hb.resolve_right (fun e => by cases e)), OutI.nil _ _, hR5, hN4, Nat.le_refl _⟩
      case round =>
        clear hG5 hR5 hN4
        obtain ⟨o, ho4, rfl, v', K, L, HKL, hGx, hOn, hRx, hNx, hWx⟩ := hrel
        rename World => wx
        have hLl : L.length ≤ 4 := by
          have := kidsF_len (growS c) pt.outs s F.length o
          rw [HKL.out] at this
          have this : L.length = o := this
          omega
        have hFK : (F ++ (⟨bt, [], bitsI s⟩ : MFork) :: K).length = F.length + 1 + K.length := by rw [List.length_append, List.length_cons]; omega
        have hnb : ∀ k, u9.ownBlock = some k → base ≤ k ∧ w.heap.size ≤ k := fun k hk => by
          have := (own_block_lt hOn k hk).1
          omega
        have HNB := Lib.hid hnb
        clear hnb
        obtain ⟨N, hN⟩ : ∃ N, F.length + 1 + K.length = N := ⟨_, rfl⟩
        rw [hN] at hFK
        have i0 := ix0 (.int .u64 x0) (.int .u64 x1) (.int .u64 x2) (.int .u64 x3)
        have i1 := ix1 (.int .u64 x0) (.int .u64 x1) (.int .u64 x2) (.int .u64 x3)
        have i2 := ix2 (.int .u64 x0) (.int .u64 x1) (.int .u64 x2) (.int .u64 x3)
        have i3 := ix3 (.int .u64 x0) (.int .u64 x1) (.int .u64 x2) (.int .u64 x3)
        rcases (show o = 0 ∨ o = 1 ∨ o = 2 ∨ o = 3 ∨ o = 4 by omega) with rfl | rfl | rfl | rfl | rfl
        · by_cases h0 : 0 < x0
          · obtain ⟨p', _, hp', h2'⟩ := HTW.out 0
            have hxs : x0 < s := by rw [← HX0.out]; exact partS_ne hs12 (fun e => hp' e.symm) h2'
            have HKY : Hid (kidsF (growS c) pt.outs s F.length (0 + 1) = (K ++ growS c x0 N, L ++ [(N : Int)])) := by
              show _ = _
              rw [kidsF_yes (by rw [HX0.out]; exact h0), HKL.out, HX0.out, hN]
            have hml : F.length + 1 + (kidsF (growS c) pt.outs s F.length (0 + 1)).1.length ≤ 1000000000 := Nat.le_trans (Nat.add_le_add_left (kidsF_mono (growS c) pt.outs s F.length (0 + 1) 3) _) HK4.out
            rw [HKY.out, List.length_append] at hml
            have hpre : (F ++ (⟨bt, [], bitsI s⟩ : MFork) :: K).length + (growS c x0 (F ++ (⟨bt, [], bitsI s⟩ : MFork) :: K).length).length ≤ 1000000000 := by rw [hFK]; omega
            have HIX := Lib.hid (HIH.out x0 hxs _ wx v' _ hGx hpre)
            unfold GrowPost at HIX
            rw [hFK] at HIX
            clear hml hpre
            go_wp2_with (first | (go_at_call 57; refine HIX.out.mono ?_; rintro e w7 ⟨rfl, v7, hG7, hR7, hN7⟩; have hO7 := OutI.gr hOn hR7 (by omega) (by omega) (fun k hk e => hGx.vX k e.symm (Or.inr hk)); have hs7 := hR7.size) | (at_builtin; refine app_int_at _ rfl _ _ rfl W5.heap.size _ L rfl (World.ownsRow.alloc hO7 _) _ _ rfl (newcell _ _ _ _) (by omega) (by simp; omega) ?_; intro g8 cap8 w8 hO8 hg8 hat8 hlt8))
            have hak := after_kid hG7 HNB.out (hRx.trans hR7 hNx) hg8 hat8 hlt8
            have hs8 := hg8.size
            simp at hs8
            go_roundw
            case rel => exact ⟨0 + 1, by omega, rfl, v7, _, _, HKY.out, by rw [List.append_assoc, List.cons_append] at hak; exact hak.1, hO8, hak.2, hNx.trans hN7 hRx.size, by omega⟩
            case measure => simp [intOf]
          · have hd0 : decide (0 < x0) = false := decide_eq_false h0
            have HKN : Hid (kidsF (growS c) pt.outs s F.length (0 + 1) = (K, L ++ [-1])) := by
              show _ = _
              rw [kidsF_no (by rw [HX0.out]; exact h0), HKL.out]
            go_wp2_with (at_builtin; refine app_int_at _ rfl _ _ rfl W5.heap.size _ L rfl (World.ownsRow.alloc hOn _) _ _ rfl (newcell _ _ _ _) (by omega) (by simp; omega) ?_; intro g8 cap8 w8 hO8 hg8 hat8 hlt8)
            have hak := after_kid hGx HNB.out hRx hg8 hat8 hlt8
            have hs8 := hg8.size
            simp at hs8
            go_roundw
            case rel => exact ⟨0 + 1, by omega, rfl, v', _, _, HKN.out, hak.1, hO8, hak.2, hNx, by omega⟩
            case measure => simp [intOf]
        · by_cases h0 : 0 < x1
          · obtain ⟨p', _, hp', h2'⟩ := HTW.out 1
            have hxs : x1 < s := by rw [← HX1.out]; exact partS_ne hs12 (fun e => hp' e.symm) h2'
            have HKY : Hid (kidsF (growS c) pt.outs s F.length (1 + 1) = (K ++ growS c x1 N, L ++ [(N : Int)])) := by
              show _ = _
              rw [kidsF_yes (by rw [HX1.out]; exact h0), HKL.out, HX1.out, hN]
            have hml : F.length + 1 + (kidsF (growS c) pt.outs s F.length (1 + 1)).1.length ≤ 1000000000 := Nat.le_trans (Nat.add_le_add_left (kidsF_mono (growS c) pt.outs s F.length (1 + 1) 2) _) HK4.out
            rw [HKY.out, List.length_append] at hml
            have hpre : (F ++ (⟨bt, [], bitsI s⟩ : MFork) :: K).length + (growS c x1 (F ++ (⟨bt, [], bitsI s⟩ : MFork) :: K).length).length ≤ 1000000000 := by rw [hFK]; omega
            have HIX := Lib.hid (HIH.out x1 hxs _ wx v' _ hGx hpre)
            unfold GrowPost at HIX
            rw [hFK] at HIX
            clear hml hpre
            go_wp2_with (first | (go_at_call 57; refine HIX.out.mono ?_; rintro e w7 ⟨rfl, v7, hG7, hR7, hN7⟩; have hO7 := OutI.gr hOn hR7 (by omega) (by omega) (fun k hk e => hGx.vX k e.symm (Or.inr hk)); have hs7 := hR7.size) | (at_builtin; refine app_int_at _ rfl _ _ rfl W5.heap.size _ L rfl (World.ownsRow.alloc hO7 _) _ _ rfl (newcell _ _ _ _) (by omega) (by simp; omega) ?_; intro g8 cap8 w8 hO8 hg8 hat8 hlt8))
            have hak := after_kid hG7 HNB.out (hRx.trans hR7 hNx) hg8 hat8 hlt8
            have hs8 := hg8.size
            simp at hs8
            go_roundw
            case rel => exact ⟨1 + 1, by omega, rfl, v7, _, _, HKY.out, by rw [List.append_assoc, List.cons_append] at hak; exact hak.1, hO8, hak.2, hNx.trans hN7 hRx.size, by omega⟩
            case measure => simp [intOf]
          · have hd0 : decide (0 < x1) = false := decide_eq_false h0
            have HKN : Hid (kidsF (growS c) pt.outs s F.length (1 + 1) = (K, L ++ [-1])) := by
              show _ = _
              rw [kidsF_no (by rw [HX1.out]; exact h0), HKL.out]
            go_wp2_with (at_builtin; refine app_int_at _ rfl _ _ rfl W5.heap.size _ L rfl (World.ownsRow.alloc hOn _) _ _ rfl (newcell _ _ _ _) (by omega) (by simp; omega) ?_; intro g8 cap8 w8 hO8 hg8 hat8 hlt8)
            have hak := after_kid hGx HNB.out hRx hg8 hat8 hlt8
            have hs8 := hg8.size
            simp at hs8
            go_roundw
            case rel => exact ⟨1 + 1, by omega, rfl, v', _, _, HKN.out, hak.1, hO8, hak.2, hNx, by omega⟩
            case measure => simp [intOf]
        · by_cases h0 : 0 < x2
          · obtain ⟨p', _, hp', h2'⟩ := HTW.out 2
            have hxs : x2 < s := by rw [← HX2.out]; exact partS_ne hs12 (fun e => hp' e.symm) h2'
            have HKY : Hid (kidsF (growS c) pt.outs s F.length (2 + 1) = (K ++ growS c x2 N, L ++ [(N : Int)])) := by
              show _ = _
              rw [kidsF_yes (by rw [HX2.out]; exact h0), HKL.out, HX2.out, hN]
            have hml : F.length + 1 + (kidsF (growS c) pt.outs s F.length (2 + 1)).1.length ≤ 1000000000 := Nat.le_trans (Nat.add_le_add_left (kidsF_mono (growS c) pt.outs s F.length (2 + 1) 1) _) HK4.out
            rw [HKY.out, List.length_append] at hml
            have hpre : (F ++ (⟨bt, [], bitsI s⟩ : MFork) :: K).length + (growS c x2 (F ++ (⟨bt, [], bitsI s⟩ : MFork) :: K).length).length ≤ 1000000000 := by rw [hFK]; omega
            have HIX := Lib.hid (HIH.out x2 hxs _ wx v' _ hGx hpre)
            unfold GrowPost at HIX
            rw [hFK] at HIX
            clear hml hpre
            go_wp2_with (first | (go_at_call 57; refine HIX.out.mono ?_; rintro e w7 ⟨rfl, v7, hG7, hR7, hN7⟩; have hO7 := OutI.gr hOn hR7 (by omega) (by omega) (fun k hk e => hGx.vX k e.symm (Or.inr hk)); have hs7 := hR7.size) | (at_builtin; refine app_int_at _ rfl _ _ rfl W5.heap.size _ L rfl (World.ownsRow.alloc hO7 _) _ _ rfl (newcell _ _ _ _) (by omega) (by simp; omega) ?_; intro g8 cap8 w8 hO8 hg8 hat8 hlt8))
            have hak := after_kid hG7 HNB.out (hRx.trans hR7 hNx) hg8 hat8 hlt8
            have hs8 := hg8.size
            simp at hs8
            go_roundw
            case rel => exact ⟨2 + 1, by omega, rfl, v7, _, _, HKY.out, by rw [List.append_assoc, List.cons_append] at hak; exact hak.1, hO8, hak.2, hNx.trans hN7 hRx.size, by omega⟩
            case measure => simp [intOf]
          · have hd0 : decide (0 < x2) = false := decide_eq_false h0
            have HKN : Hid (kidsF (growS c) pt.outs s F.length (2 + 1) = (K, L ++ [-1])) := by
              show _ = _
              rw [kidsF_no (by rw [HX2.out]; exact h0), HKL.out]
            go_wp2_with (at_builtin; refine app_int_at _ rfl _ _ rfl W5.heap.size _ L rfl (World.ownsRow.alloc hOn _) _ _ rfl (newcell _ _ _ _) (by omega) (by simp; omega) ?_; intro g8 cap8 w8 hO8 hg8 hat8 hlt8)
            have hak := after_kid hGx HNB.out hRx hg8 hat8 hlt8
            have hs8 := hg8.size
            simp at hs8
            go_roundw
            case rel => exact ⟨2 + 1, by omega, rfl, v', _, _, HKN.out, hak.1, hO8, hak.2, hNx, by omega⟩
            case measure => simp [intOf]
        · by_cases h0 : 0 < x3
          · obtain ⟨p', _, hp', h2'⟩ := HTW.out 3
            have hxs : x3 < s := by rw [← HX3.out]; exact partS_ne hs12 (fun e => hp' e.symm) h2'
            have HKY : Hid (kidsF (growS c) pt.outs s F.length (3 + 1) = (K ++ growS c x3 N, L ++ [(N : Int)])) := by
              show _ = _
              rw [kidsF_yes (by rw [HX3.out]; exact h0), HKL.out, HX3.out, hN]
            have hml : F.length + 1 + (kidsF (growS c) pt.outs s F.length (3 + 1)).1.length ≤ 1000000000 := Nat.le_trans (Nat.add_le_add_left (kidsF_mono (growS c) pt.outs s F.length (3 + 1) 0) _) HK4.out
            rw [HKY.out, List.length_append] at hml
            have hpre : (F ++ (⟨bt, [], bitsI s⟩ : MFork) :: K).length + (growS c x3 (F ++ (⟨bt, [], bitsI s⟩ : MFork) :: K).length).length ≤ 1000000000 := by rw [hFK]; omega
            have HIX := Lib.hid (HIH.out x3 hxs _ wx v' _ hGx hpre)
            unfold GrowPost at HIX
            rw [hFK] at HIX
            clear hml hpre
            go_wp2_with (first | (go_at_call 57; refine HIX.out.mono ?_; rintro e w7 ⟨rfl, v7, hG7, hR7, hN7⟩; have hO7 := OutI.gr hOn hR7 (by omega) (by omega) (fun k hk e => hGx.vX k e.symm (Or.inr hk)); have hs7 := hR7.size) | (at_builtin; refine app_int_at _ rfl _ _ rfl W5.heap.size _ L rfl (World.ownsRow.alloc hO7 _) _ _ rfl (newcell _ _ _ _) (by omega) (by simp; omega) ?_; intro g8 cap8 w8 hO8 hg8 hat8 hlt8))
            have hak := after_kid hG7 HNB.out (hRx.trans hR7 hNx) hg8 hat8 hlt8
            have hs8 := hg8.size
            simp at hs8
            go_roundw
            case rel => exact ⟨3 + 1, by omega, rfl, v7, _, _, HKY.out, by rw [List.append_assoc, List.cons_append] at hak; exact hak.1, hO8, hak.2, hNx.trans hN7 hRx.size, by omega⟩
            case measure => simp [intOf]
          · have hd0 : decide (0 < x3) = false := decide_eq_false h0
            have HKN : Hid (kidsF (growS c) pt.outs s F.length (3 + 1) = (K, L ++ [-1])) := by
              show _ = _
              rw [kidsF_no (by rw [HX3.out]; exact h0), HKL.out]
            go_wp2_with (at_builtin; refine app_int_at _ rfl _ _ rfl W5.heap.size _ L rfl (World.ownsRow.alloc hOn _) _ _ rfl (newcell _ _ _ _) (by omega) (by simp; omega) ?_; intro g8 cap8 w8 hO8 hg8 hat8 hlt8)
            have hak := after_kid hGx HNB.out hRx hg8 hat8 hlt8
            have hs8 := hg8.size
            simp at hs8
            go_roundw
            case rel => exact ⟨3 + 1, by omega, rfl, v', _, _, HKN.out, hak.1, hO8, hak.2, hNx, by omega⟩
            case measure => simp [intOf]
        · clear i0 i1 i2 i3
          have hLe : L.length = 4 := by
            have := kidsF_len (growS c) pt.outs s F.length 4
            rw [HKL.out] at this
            exact this
          have hXs := HGS.out.xs
          obtain ⟨g9, cap9, hv9, hb9, hl9⟩ : ∃ g cap, v' = .slice (some ⟨g, 0, none⟩) (F ++ (⟨bt, [], bitsI s⟩ : MFork) :: K).length cap ∧ base ≤ g ∧ g < wx.heap.size := by
            obtain ⟨pv, hrow, _⟩ := hGx.out
            exact hrow.form (by omega)
          subst hv9
          obtain ⟨A9, n9, hu9, hn9, _⟩ := hOn.lenV
          subst hu9
          have hnx := (hGx.lessX (X := X) (fun b hb => Or.inl hb)).nexted (i := F.length) (by rw [hFK]; omega) A9 n9 L (hOn.intsU rfl (fun k hA hk => ⟨⟨⟨by omega, by omega⟩, fun hx => by have := hXs k hx; omega⟩, fun e => hGx.vX g9 rfl (Or.inr (by rw [hA]; exact e))⟩)) hn9
          rw [set_mid, get_mid] at hnx
          obtain ⟨⟨uo, hc9⟩, hf9, hG9⟩ := hnx
          have hg3 := hGx.g3
          rw [hFK] at hg3
          have hlx := hGx.own.lt
          have hFN : F.length < N := by omega
          have hR9 := hRx.setnew (g := g9) (j := F.length * 3 + 1) (by
            rcases hNx with hNx | ⟨g', h1, h2⟩
            · exact .inl hNx.symm
            · have h1 : some g9 = some g' := h1
              injection h1 with h1
              exact .inr (by omega)) (.slice A9 L.length n9)
          clear hGx hRx
          rw [hLe] at hG9 hR9
          go_wp2_with fail
          go_ret
          exact ⟨rfl, _, by rw [HGS2.out, HKL.out]; exact hG9, hR9, hNx⟩
theorem grow_any (B0 gp mb base : Nat) (A1 : Option Addr) (c1 : Nat) (A2 : Option Addr) (c2 : Nat) (c : MCase) (hc : caseB c = true) : ∀ (s : Nat), s < 2 ^ c.weights.length → ∀ (X : Nat → Prop) (w : World) (v : Value) (F : List MFork), GS w B0 gp mb base A1 c1 A2 c2 c X v F → F.length + (growS c s F.length).length ≤ 1000000000 →
    Calls Tryd.prog 57 #[.pointer (some ⟨gp, 0, none⟩), .int .u64 s] w (GrowPost w B0 gp mb base A1 c1 A2 c2 c X v F s) := by
  intro s
  induction s using Nat.strongRecOn with
  | ind s ih => exact fun hs X w v F h hl => grow_step B0 gp mb base A1 c1 A2 c2 c hc s hs (fun t ht => ih t ht (by omega)) X w v F h hl
end Go.Proofs.YtonpemikodajdaaDoor

/- Walks: diagnose.Guide. -/
namespace Go.Proofs.YtonpemikodajdaaDoor
open Go.RowKit

set_option maxRecDepth 100000 in
theorem everyone_any (A1 A2 : Option Addr) (c1 c2 : Nat) (c : MCase) (w : World) (hn : c.weights.length ≤ 12) {q : Nat} (hq : fullS c = q) :
    Calls Tryd.prog 58 #[.agg #[.slice A1 c.weights.length c1, .slice A2 c.tests.length c2]] w fun e w' => e = .returned (.int .u64 q) ∧ Below w.heap.size w w' := by
  have hc : ((2 : Int) ^ c.weights.length) = ((2 ^ c.weights.length : Nat) : Int) := by simp
  have h12 : 2 ^ c.weights.length ≤ 2 ^ 12 := Nat.pow_le_pow_right (by omega) hn
  have hp : 0 < 2 ^ c.weights.length := Nat.two_pow_pos _
  unfold fullS at hq
  generalize (2 ^ c.weights.length : Nat) = r at *
  have e1 : IntKind.u64.wrap ((2 : Int) ^ c.weights.length) = (r : Int) := by rw [hc]; exact IntWalk.u64_in _ (by omega)
  have e2 : IntKind.u64.wrap ((r : Int) - 1) = (q : Int) := by rw [IntWalk.u64_in _ (by omega)]; omega
  clear hc hq
  go_enter Tryd.func58, Tryd.ntmps58
  go_wp2_with fail
  go_ret
  exact ⟨rfl, (Below.refl _ _).alloc (Nat.le_refl _) _⟩
theorem init_GS {w w1 : World} {A1 A2 : Option Addr} {c1 c2 : Nat} {c : MCase} (h : CaseA w w.heap.size A1 A2 c) (hT : TabW w) (hb : Below w.heap.size w w1) :
    GS ((w1.alloc (.map #[] 0)).alloc (.cells #[.slice A1 c.weights.length c1, .slice A2 c.tests.length c2, .map (some w1.heap.size), .slice none 0 0] 94)) w.heap.size (w1.heap.size + 1) w1.heap.size (w1.heap.size + 2) A1 c1 A2 c2 c (fun _ => False) (.slice none 0 0) [] := by
  have hs := hb.size
  have hb2 : Below w.heap.size w ((w1.alloc (.map #[] 0)).alloc (.cells #[.slice A1 c.weights.length c1, .slice A2 c.tests.length c2, .map (some w1.heap.size), .slice none 0 0] 94)) := (hb.alloc hs _).alloc (by simp; omega) _
  have ho := own_new (w1.alloc (.map #[] 0)) #[.slice A1 c.weights.length c1, .slice A2 c.tests.length c2, .map (some w1.heap.size), .slice none 0 0] 94 (n := 4) (f := gpF A1 c1 A2 c2 c w1.heap.size (.slice none 0 0)) (by simp) (fun j hj => by
    rcases (show j = 0 ∨ j = 1 ∨ j = 2 ∨ j = 3 by omega) with rfl | rfl | rfl | rfl <;> rfl)
  exact ⟨by simpa using ho, hT.keep hb2, h.keep hb2, hT.1, hs, by omega, by omega, by omega, by omega, by simp, (KnM.made w1 c).alloc _, OutK.nil _ _ _, fun k hk => (by cases hk), fun b hb' => hb'.elim⟩
theorem OutK.base {w : World} {b0 b1 : Nat} {U0 : Nat → Prop} {v : Value} {F : List MFork} (h : OutK w b0 U0 v F) (hb : b1 ≤ b0) : OutK w b1 U0 v F := by
  obtain ⟨pv, h1, h2⟩ := h
  exact ⟨pv, own_base h1 hb, h2⟩
/-- what Guide answers -/
def GuidePost (w : World) (c : MCase) (e : Ending) (w' : World) : Prop :=
  Below w.heap.size w w' ∧ ((caseB c = false ∧ e = .returned (.tuple #[.slice none 0 0, .int .i64 0, .int .i64 101])) ∨
    (caseB c = true ∧ ∃ v, e = .returned (.tuple #[v, .int .i64 (bestS c (fullS c)).2, .int .i64 0]) ∧ OutK w' w.heap.size (fun _ => True) v (growS c (fullS c) 0)))
set_option maxRecDepth 100000 in
set_option maxHeartbeats 4000000 in
theorem guide_any (A1 A2 : Option Addr) (c1 c2 : Nat) (c : MCase) (w : World) (h : CaseA w w.heap.size A1 A2 c) (hT : TabW w) :
    Calls Tryd.prog 20 #[.agg #[.slice A1 c.weights.length c1, .slice A2 c.tests.length c2]] w (GuidePost w c) := by
  have hb0 : Below w.heap.size w (w.alloc (.cells #[.slice A1 c.weights.length c1, .slice A2 c.tests.length c2] 36)) := (Below.refl _ _).alloc (Nat.le_refl _) _
  have n0 := newcell w #[.slice A1 c.weights.length c1, .slice A2 c.tests.length c2] 36 0
  have n1 := newcell w #[.slice A1 c.weights.length c1, .slice A2 c.tests.length c2] 36 1
  simp only [List.getElem?_toArray, List.getElem?_cons_succ, List.getElem?_cons_zero] at n0 n1
  have hsz0 : (w.alloc (.cells #[.slice A1 c.weights.length c1, .slice A2 c.tests.length c2] 36)).heap.size = w.heap.size + 1 := by simp
  rcases hv : caseB c
  · have HC := Lib.hid (check_any A1 A2 c1 c2 c _ ((h.keep hb0).more hb0.size) (checkC_no hv))
    have HV := Lib.hid hv
    clear hv
    go_enter Tryd.func20, Tryd.ntmps20
    go_wp2_with (go_at_call 27; refine HC.out.mono ?_; rintro e w1 ⟨rfl, hb1⟩)
    go_ret3
    exact ⟨hb0.trans (hb1.mono hb0.size), .inl ⟨HV.out, rfl⟩⟩
  · have HC := Lib.hid (check_any A1 A2 c1 c2 c _ ((h.keep hb0).more hb0.size) (checkC_yes hv))
    have hok := caseOk hv
    have hn12 := hok.n2
    have HV := Lib.hid hv
    have HCA := Lib.hid h
    have HT := Lib.hid hT
    have hfl := fullS_lt c
    have HFL := Lib.hid hfl
    obtain ⟨q, hq⟩ : ∃ q, fullS c = q := ⟨_, rfl⟩
    have HQ := Lib.hid hq
    clear hv h hok hfl hq
    have hmm := @run_makeMap Tryd.prog
    go_enter Tryd.func20, Tryd.ntmps20
    go_upto_region 6 with (first | (go_at_call 27; refine HC.out.mono ?_; rintro e w1 ⟨rfl, hb1⟩; have m0 := (bcell hb1 w.heap.size 0 (by omega)).trans n0; have m1 := (bcell hb1 w.heap.size 1 (by omega)).trans n1; have hbw1 := hb0.trans (hb1.mono hb0.size); have hs1 := hb1.size; have hG3 := init_GS (c1 := c1) (c2 := c2) HCA.out HT.out hbw1; rw [hsz0] at hs1; have k0 := (acell (w1.alloc (.map #[] 0)) (.cells #[.slice A1 c.weights.length c1, .slice A2 c.tests.length c2, .map (some w1.heap.size), .slice none 0 0] 94) w.heap.size 0 (by simp; omega)).trans ((acell w1 (.map #[] 0) w.heap.size 0 (by omega)).trans m0); have k1 := (acell (w1.alloc (.map #[] 0)) (.cells #[.slice A1 c.weights.length c1, .slice A2 c.tests.length c2, .map (some w1.heap.size), .slice none 0 0] 94) w.heap.size 1 (by simp; omega)).trans ((acell w1 (.map #[] 0) w.heap.size 1 (by omega)).trans m1)) | (go_at_call 58; refine (everyone_any A1 A2 c1 c2 c _ hn12 HQ.out).mono ?_; rintro e w5 ⟨rfl, hb5⟩; have hG5 := hG3.below hb5 (Nat.le_refl _)) | (go_at_call 57; refine (grow_any _ _ _ _ _ _ _ _ c HV.out q (by rw [← HQ.out]; exact HFL.out) _ _ _ _ hG5 (by simpa using growS_cap (two12 (by rw [← HQ.out]; exact HFL.out) hn12) 0)).mono ?_; rintro e w6 ⟨rfl, v6, hG6, hR6, hN6⟩))
    have hs3 : ((w1.alloc (.map #[] 0)).alloc (.cells #[.slice A1 c.weights.length c1, .slice A2 c.tests.length c2, .map (some w1.heap.size), .slice none 0 0] 94)).heap.size = w1.heap.size + 2 := by simp
    have hs5 := hb5.size
    rw [hs3] at hs5
    have r0 := (World.cell?_of_block (a := ⟨w.heap.size, 0, none⟩) (hR6.block w.heap.size (by omega) (by omega) (by omega) (fun e => by cases e))).trans ((bcell hb5 w.heap.size 0 (by omega)).trans k0)
    have r1 := (World.cell?_of_block (a := ⟨w.heap.size, 1, none⟩) (hR6.block w.heap.size (by omega) (by omega) (by omega) (fun e => by cases e))).trans ((bcell hb5 w.heap.size 1 (by omega)).trans k1)
    have r3 := hG6.g3
    have hGd := hG6.below (Below.refl w6.heap.size w6).drew (Nat.le_refl _)
    have hB6 : Below w.heap.size w w6 := ((hbw1.alloc (by omega) _).alloc (by simp; omega) _).trans ((hb5.mono (by simp; omega)).trans (hR6.below (by omega) (by omega) (by omega) (fun k hk => by cases hk)))
    have hs6 := hR6.size
    have j1 := fd1 (.int .i64 (bestS c q).1) (.int .i64 (bestS c q).2)
    have HRR := Lib.hid hR6
    have HMN : Hid (∀ (w7 : World) (hG : GS w7 w.heap.size (w1.heap.size + 1) w1.heap.size (w1.heap.size + 2) A1 c1 A2 c2 c (fun _ => False) v6 ([] ++ growS c q ([] : List MFork).length)), Calls Tryd.prog 59 #[.pointer (some ⟨w1.heap.size + 1, 0, none⟩), .int .u64 q] w7 (BestPost w7 w1.heap.size c q)) := fun w7 hG => best_any _ _ _ _ _ _ _ c HV.out hG.hm hG.ne q (by rw [← HQ.out]; exact HFL.out) w7 hG.ge hG.g2 hG.kn
    clear m0 m1 n0 n1 k0 k1 hG3 hG5 hb1 hb0 hmm hR6 hN6
    go_region_held3 (fun w' => w'.cell? ⟨w.heap.size, 0, none⟩ = some (.slice A1 c.weights.length c1) ∧ w'.cell? ⟨w.heap.size, 1, none⟩ = some (.slice A2 c.tests.length c2) ∧ w'.cell? ⟨w1.heap.size + 1, 3, none⟩ = some v6) (first | exact d80 | exact d81 | exact d83 | exact d70 | exact d71 | exact d73 | go_keep) ((first | (go_at_call 58; refine (everyone_any A1 A2 c1 c2 c _ hn12 HQ.out).mono ?_; rintro e w7 ⟨rfl, hb7⟩; have hG7 := hGd.below hb7 (Nat.le_refl _); have d70 := (bcell hb7 w.heap.size 0 (by simp; omega)).trans r0; have d71 := (bcell hb7 w.heap.size 1 (by simp; omega)).trans r1; have d73 := hG7.g3) | (go_at_call 59; refine (HMN.out _ hG7).mono ?_; rintro e w8 ⟨rfl, hk8, hg8⟩; have hG8 := hG7.grown hg8 hk8; have d80 := hg8.cell d70 (fun e => by injection e with e; simp at e; omega); have d81 := hg8.cell d71 (fun e => by injection e with e; simp at e; omega); have d83 := hG8.g3)))
    have hs7 := hb7.size
    simp at hs7
    have hB8 : Below w.heap.size w w8 := (hB6.trans ((Below.refl w.heap.size w6).drew.trans (hb7.mono (by simp; omega)))).grown hg8 (by omega) (fun k hk => by injection hk with hk; omega)
    go_wp2_with fail
    go_ret3
    exact ⟨hB8, .inr ⟨HV.out, v6, by rw [HQ.out]; rfl, by rw [HQ.out]; exact (hG8.out.base (by omega)).reU (fun _ _ _ => trivial)⟩⟩
end Go.Proofs.YtonpemikodajdaaDoor
