/- What the walk of grow keeps. -/
import Derived.Test.YtonpemikodajdaaDoorOk1
import Derived.Test.YtonpemikodajdaaDoorBst
namespace Go.Proofs.YtonpemikodajdaaDoor
open Go.RowKit

/-- the new world differs in the guide's box, in the map, in the forks' row, and in what is new -/
structure Gr (w w' : World) (gp mb : Nat) (fo : Option Nat) : Prop where
  os : w'.os = w.os
  tape : w'.tape = w.tape
  output : w'.output = w.output
  size : w.heap.size ≤ w'.heap.size
  block : ∀ k, k < w.heap.size → k ≠ gp → k ≠ mb → some k ≠ fo → w'.heap[k]? = w.heap[k]?
def OwnNew (w : World) (fo fo' : Option Nat) : Prop := fo' = fo ∨ ∃ g, fo' = some g ∧ w.heap.size ≤ g
section
variable {w w' w'' : World} {gp mb : Nat} {fo fo' : Option Nat}
theorem Gr.refl (w : World) (gp mb : Nat) (fo : Option Nat) : Gr w w gp mb fo := ⟨rfl, rfl, rfl, Nat.le_refl _, fun _ _ _ _ _ => rfl⟩
theorem Gr.trans (h : Gr w w' gp mb fo) (h' : Gr w' w'' gp mb fo') (hf : OwnNew w fo fo') : Gr w w'' gp mb fo :=
  ⟨h'.os.trans h.os, h'.tape.trans h.tape, h'.output.trans h.output, Nat.le_trans h.size h'.size, fun k hk h1 h2 h3 => (h'.block k (by have := h.size; omega) h1 h2 (fun e => by
    rcases hf with hf | ⟨g, hf, hg⟩
    · rw [hf] at e; exact h3 e
    · rw [hf] at e; injection e with e; omega)).trans (h.block k hk h1 h2 h3)⟩
theorem Gr.of_below {B : Nat} (hb : Below B w w') (hB : w.heap.size ≤ B) : Gr w w' gp mb fo := ⟨hb.os, hb.tape, hb.output, hb.size, fun k hk _ _ _ => hb.block k (by omega)⟩
theorem Gr.of_map (hg : w.grownBy w' (some mb)) : Gr w w' gp mb fo := ⟨hg.os, hg.tape, hg.output, hg.size, fun k hk _ h2 _ => hg.block k hk (fun e => h2 (by injection e))⟩
theorem Gr.of_row (hg : w.grownBy w' fo) : Gr w w' gp mb fo := ⟨hg.os, hg.tape, hg.output, hg.size, fun k hk _ _ h3 => hg.block k hk h3⟩
theorem Gr.below {B : Nat} (h : Gr w w' gp mb fo) (hB : B ≤ w.heap.size) (h1 : B ≤ gp) (h2 : B ≤ mb) (h3 : ∀ k, fo = some k → B ≤ k) : Below B w w' :=
  ⟨h.os, h.tape, h.output, h.size, fun k hk => h.block k (by omega) (by omega) (by omega) (fun e => by have := h3 k e.symm; omega)⟩
theorem OwnNew.refl (w : World) (fo : Option Nat) : OwnNew w fo fo := .inl rfl
theorem OwnNew.trans {fo'' : Option Nat} (h : OwnNew w fo fo') (h' : OwnNew w' fo' fo'') (hs : w.heap.size ≤ w'.heap.size) : OwnNew w fo fo'' := by
  rcases h' with h' | ⟨g, h1, h2⟩
  · rw [h']; exact h
  · exact .inr ⟨g, h1, by omega⟩
end
def gpF (A1 : Option Addr) (c1 : Nat) (A2 : Option Addr) (c2 : Nat) (c : MCase) (mb : Nat) (v : Value) (j : Nat) : Value :=
  if j = 0 then .slice A1 c.weights.length c1 else if j = 1 then .slice A2 c.tests.length c2 else if j = 2 then .map (some mb) else v
/-- a guide in its box, with its map and its forks; nothing of these lies in a block of X -/
structure GS (w : World) (B0 gp mb base : Nat) (A1 : Option Addr) (c1 : Nat) (A2 : Option Addr) (c2 : Nat) (c : MCase) (X : Nat → Prop) (v : Value) (F : List MFork) : Prop where
  own : OwnF w gp 94 4 (gpF A1 c1 A2 c2 c mb v)
  tab : TabW w
  ca : CaseA w B0 A1 A2 c
  t1 : 1 < B0
  hm : B0 ≤ mb
  hg : B0 ≤ gp
  ne : gp ≠ mb
  bg : gp < base
  bm : mb < base
  bs : base ≤ w.heap.size
  kn : KnM w mb c
  out : OutK w base (fun b => (b ≠ gp ∧ b ≠ mb) ∧ ¬ X b) v F
  vX : ∀ k, v.ownBlock = some k → ¬ X k
  xs : ∀ b, X b → b < w.heap.size
section
variable {w w' : World} {B0 gp mb base : Nat} {A1 : Option Addr} {c1 : Nat} {A2 : Option Addr} {c2 : Nat} {c : MCase} {X : Nat → Prop} {v : Value} {F : List MFork}
theorem GS.ge (h : GS w B0 gp mb base A1 c1 A2 c2 c X v F) : GE w B0 gp A1 c1 A2 c2 c := ⟨h.own.lt, h.tab, h.own.cell (j := 0) (by omega), h.own.cell (j := 1) (by omega), h.ca, h.t1, h.hg⟩
theorem GS.g2 (h : GS w B0 gp mb base A1 c1 A2 c2 c X v F) : w.cell? ⟨gp, 2, none⟩ = some (.map (some mb)) := h.own.cell (j := 2) (by omega)
theorem GS.g3 (h : GS w B0 gp mb base A1 c1 A2 c2 c X v F) : w.cell? ⟨gp, 3, none⟩ = some v := h.own.cell (j := 3) (by omega)
theorem GS.barred (h : GS w B0 gp mb base A1 c1 A2 c2 c X v F) : ∀ k, v.ownBlock = some k → (k ≠ gp ∧ k ≠ mb) ∧ ¬ X k := fun k hk => by
  have := (h.out.lt k hk).1
  have := h.bg
  have := h.bm
  exact ⟨by omega, h.vX k hk⟩
theorem GS.below (h : GS w B0 gp mb base A1 c1 A2 c2 c X v F) {B : Nat} (hb : Below B w w') (hB : w.heap.size ≤ B) : GS w' B0 gp mb base A1 c1 A2 c2 c X v F := by
  have h1 := h.own.lt
  have h2 := h.bs
  have h3 := h.kn.lt
  have h4 := h.tab.1
  exact ⟨h.own.below hb (by omega), h.tab.below hb (by omega), h.ca.below (hb.mono (B' := B0) (by have := h.hg; omega)) (Nat.le_refl _), h.t1, h.hm, h.hg, h.ne, h.bg, h.bm, Nat.le_trans h.bs hb.size, h.kn.below hb (by omega), h.out.keep hb.size (fun b hb' _ => hb.block b (by omega)) h.barred, h.vX, fun b hb' => Nat.lt_of_lt_of_le (h.xs b hb') hb.size⟩
theorem GS.grown (h : GS w B0 gp mb base A1 c1 A2 c2 c X v F) (hg : w.grownBy w' (some mb)) (hk : KnM w' mb c) : GS w' B0 gp mb base A1 c1 A2 c2 c X v F := by
  have h0 := h.ge.grown hg h.hm h.ne
  exact ⟨h.own.grown hg (fun e => h.ne (by injection e)), h0.tab, h0.ca, h.t1, h.hm, h.hg, h.ne, h.bg, h.bm, Nat.le_trans h.bs hg.size, hk, h.out.keep hg.size (fun b hb' hu => hg.block b hb' (fun e => hu.1.2 (by injection e))) h.barred, h.vX, fun b hb' => Nat.lt_of_lt_of_le (h.xs b hb') hg.size⟩
/-- the row of forks has grown, and the box has the new one -/
theorem GS.pushed (h : GS w B0 gp mb base A1 c1 A2 c2 c X v F) (hg : w.grownBy w' v.ownBlock) {v' : Value} {F' : List MFork} (ho : OutK w' base (fun b => (b ≠ gp ∧ b ≠ mb) ∧ ¬ X b) v' F') (hv' : ∀ k, v'.ownBlock = some k → ¬ X k) : GS (w'.setCell ⟨gp, 3, none⟩ v') B0 gp mb base A1 c1 A2 c2 c X v' F' := by
  have hlt := h.out.lt
  have hbg := h.bg
  have hbm := h.bm
  have hbs := h.bs
  have hB : Below base w w' := (Below.refl _ _).grown hg h.bs (fun k hk => (hlt k hk).1)
  have hn : ∀ {k}, k < base → some k ≠ v.ownBlock := fun {k} hk e => by have := (hlt k e.symm).1; omega
  have hb2 : Below gp w' (w'.setCell ⟨gp, 3, none⟩ v') := (Below.refl _ _).setCell (p := ⟨gp, 3, none⟩) (Nat.le_refl _) _
  have hh : ∀ b, b ≠ gp → (w'.setCell ⟨gp, 3, none⟩ v').heap[b]? = w'.heap[b]? := fun b hb => Below.heap_setCell w' ⟨gp, 3, none⟩ v' b hb
  refine ⟨((h.own.below hB (by omega)).set 3 v').congr fun j hj => ?_, ⟨by have := h.tab.1; have := hB.size; simp; omega, fun j hj => ?_⟩, ?_, h.t1, h.hm, h.hg, h.ne, h.bg, h.bm, by have := hB.size; simp; omega, (h.kn.below hB hbm).far (a := ⟨gp, 3, none⟩) (fun e => h.ne e.symm) _, ho.keep (by simp) (fun b _ hu => hh b hu.1.1) (fun k hk => ⟨by have := (ho.lt k hk).1; omega, hv' k hk⟩), hv', fun b hb' => by have := h.xs b hb'; have := hB.size; simp; omega⟩
  · unfold gpF
    rcases (show j = 0 ∨ j = 1 ∨ j = 2 ∨ j = 3 by omega) with rfl | rfl | rfl | rfl <;> rfl
  · have h1 := h.t1
    have h2 := h.hg
    exact (bcell hb2 1 j (by omega)).trans ((bcell hB 1 j (by omega)).trans (h.tab.2 j hj))
  · exact (h.ca.below (hB.mono (B' := B0) (by have := h.hg; omega)) (Nat.le_refl _)).below (hb2.mono (B' := B0) h.hg) (Nat.le_refl _)
/-- Next of one fork is stored in the row -/
theorem GS.nexted {g n cap : Nat} (h : GS w B0 gp mb base A1 c1 A2 c2 c X (.slice (some ⟨g, 0, none⟩) n cap) F) {i : Nat} (hi : i < F.length) (A : Option Addr) (nc : Nat) (l : List Int) (hl : IntsU w (fun b => ((b ≠ gp ∧ b ≠ mb) ∧ ¬ X b) ∧ some b ≠ some g) A l) (hc : l.length ≤ nc) :
    (∃ u, w.cell? ⟨g, i * 3 + 1, none⟩ = some u) ∧ w.frozen? ⟨g, i * 3 + 1, none⟩ = false ∧ GS (w.setCell ⟨g, i * 3 + 1, none⟩ (.slice A l.length nc)) B0 gp mb base A1 c1 A2 c2 c X (.slice (some ⟨g, 0, none⟩) n cap) (F.set i ⟨(F.getD i dFork).test, l, (F.getD i dFork).set⟩) := by
  obtain ⟨e1, e2, e3⟩ := h.out.setNext hi A nc l hl hc
  have hgb := (h.out.lt g rfl).1
  have hbg := h.bg
  have hbm := h.bm
  have hb2 : Below base w (w.setCell ⟨g, i * 3 + 1, none⟩ (.slice A l.length nc)) := (Below.refl _ _).setCell (p := ⟨g, i * 3 + 1, none⟩) hgb _
  exact ⟨e1, e2, h.own.far (p := ⟨g, i * 3 + 1, none⟩) (show gp ≠ g by omega) _, h.tab.below hb2 (by have := h.t1; have := h.hg; omega), h.ca.below (hb2.mono (B' := B0) (by have := h.hg; omega)) (Nat.le_refl _), h.t1, h.hm, h.hg, h.ne, h.bg, h.bm, by simpa using h.bs, h.kn.far (a := ⟨g, i * 3 + 1, none⟩) (show mb ≠ g by omega) _, e3, h.vX, fun b hb' => by simpa using h.xs b hb'⟩
end
theorem OutK.reU {w : World} {base : Nat} {U0 U1 : Nat → Prop} {v : Value} {F : List MFork} (h : OutK w base U0 v F) (hU : ∀ b, b < w.heap.size → U0 b → U1 b) : OutK w base U1 v F := by
  obtain ⟨pv, h1, h2⟩ := h
  exact ⟨pv, h1, fun i hi => (h2 i hi).keep (Nat.le_refl _) (fun _ _ _ => rfl) (fun b hb hu => ⟨hU b hb hu.1, hu.2⟩)⟩
section
variable {w w' : World} {B0 gp mb base : Nat} {A1 : Option Addr} {c1 : Nat} {A2 : Option Addr} {c2 : Nat} {c : MCase} {X X' : Nat → Prop} {v : Value} {F : List MFork}
/-- a row in a barred block grows; what is new may be barred, too -/
theorem GS.rowgrown (h : GS w B0 gp mb base A1 c1 A2 c2 c X v F) {row : Option Nat} (hg : w.grownBy w' row) (hr : ∀ k, row = some k → X k ∧ base ≤ k) (hX : ∀ b, X' b → X b ∨ w.heap.size ≤ b) (hxs : ∀ b, X' b → b < w'.heap.size) : GS w' B0 gp mb base A1 c1 A2 c2 c X' v F := by
  have hbg := h.bg
  have hbm := h.bm
  have hB : Below base w w' := (Below.refl _ _).grown hg h.bs (fun k hk => (hr k hk).2)
  have hvl := h.out.lt
  obtain ⟨pv, h1, h2⟩ := h.out
  refine ⟨h.own.below hB hbg, h.tab.below hB (by have := h.t1; have := h.hg; omega), h.ca.below (hB.mono (B' := B0) (by have := h.hg; omega)) (Nat.le_refl _), h.t1, h.hm, h.hg, h.ne, h.bg, h.bm, Nat.le_trans h.bs hg.size, h.kn.below hB hbm,
    ⟨pv, ?_, fun i hi => (h2 i hi).keep hg.size (fun b hb' hu => hg.block b hb' (fun e => hu.1.2 (hr b e.symm).1)) (fun b hb hu => ⟨⟨hu.1.1, fun hx => ?_⟩, hu.2⟩)⟩, fun k hk hx => ?_, hxs⟩
  · obtain ⟨e1, e2⟩ := h1
    refine ⟨e1, ?_⟩
    rcases e2 with e2 | ⟨g, cap, cur, hgv, hb, hh, r⟩
    · exact .inl e2
    · have hob : v.ownBlock = some g := by rw [hgv]; rfl
      exact .inr ⟨g, cap, cur, hgv, hb, by rw [hg.block g (hvl g hob).2 (fun e => h.vX g hob (hr g e.symm).1)]; exact hh, r⟩
  · rcases hX b hx with hx | hx
    · exact hu.1.2 hx
    · omega
  · rcases hX k hx with hx | hx
    · exact h.vX k hk hx
    · have := (hvl k hk).2; omega
end
theorem list_u (s : Nat) (w : World) (hs : s < 4096) (hT : TabW w) {n : Nat} (hn : (bitsI s).length = n) :
    Calls Tryd.prog 65 #[.int .u64 s] w fun e w' => ∃ Lb lc, e = .returned (.slice Lb n lc) ∧ n ≤ lc ∧ IntsU w' (fun b => w.heap.size ≤ b) Lb (bitsI s) ∧ Below w.heap.size w w' :=
  (list_any s w hs hT).mono fun e w' ⟨v, he, hO, hb⟩ => by
    obtain ⟨Lb, lc, rfl, hlc, _⟩ := hO.reads
    refine ⟨Lb, lc, by rw [he, hn], by omega, fun h0 => ?_, hb⟩
    obtain ⟨g, hA, hg, hO⟩ := hO.ownF h0
    exact ⟨g, 0, hA, hO.lt, hg, fun i hi => by rw [Nat.zero_add]; exact hO.cell hi⟩
end Go.Proofs.YtonpemikodajdaaDoor
