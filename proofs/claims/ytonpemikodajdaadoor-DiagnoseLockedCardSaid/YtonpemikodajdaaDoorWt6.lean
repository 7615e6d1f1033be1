/- The watcher in memory; steps of a region: slices.Clone, slices.Insert at the end. -/
import Derived.Test.YtonpemikodajdaaDoorWt5
import Derived.Test.YtonpemikodajdaaDoorLaws
namespace Go.Proofs.YtonpemikodajdaaDoor
open Go.RowKit

def svA : Value → Option Addr × Nat | .slice A _ c => (A, c) | _ => (none, 0)
theorem getD_fst (K : List (MCode × Value)) (i : Nat) (hi : i < K.length) : (K.map Prod.fst).getD i dCode = K[i].1 := by
  rw [List.getD_eq_getElem?_getD, List.getElem?_map, List.getElem?_eq_getElem hi]; rfl
theorem RowC.codes {w : World} {base n cap : Nat} {A : Option Addr} {K : List (MCode × Value)} {U : Nat → Prop} (h : RowC w base (.slice A n cap) K) (hf : ∀ p ∈ K, FrameU w U p) (hl : K.length ≤ 1000000) : CodesA w w.heap.size A (K.map Prod.fst) := by
  have hlt := own_block_lt h
  refine ⟨by simpa using hl, fun i => svA (K.getD i (dCode, undef)).2, fun hn => ?_, fun i hi => ?_⟩
  · rw [List.length_map] at hn
    obtain ⟨e1, e2⟩ := id h
    rcases e2 with ⟨e2, h0⟩ | ⟨g, cap', cur, hg, hb, hh, _⟩
    · omega
    · injection hg with hg hn1 hn2
      subst hg
      refine ⟨g, 0, rfl, (hlt g rfl).2, fun i j hi hj => ?_⟩
      rw [List.length_map] at hi
      have h' := h
      rw [hn1] at h'
      have hc := World.ownsRow.cellAt (show w.ownsRow base 46 6 (.slice (some ⟨g, 0, none⟩) K.length cap) K.length (K.flatMap cells6) from h') (i * 6 + j) (by omega)
      rw [cells6_at (List.getElem?_eq_getElem hi) hj] at hc
      rw [Nat.zero_add, hc]
      obtain ⟨A', cap', h1, h2, h3⟩ := hf K[i] (List.getElem_mem _)
      unfold codeCell
      rw [getD_fst K i hi]
      have hsv : (K.getD i (dCode, undef)).2 = .slice A' K[i].1.frame.length cap' := by rw [List.getD_eq_getElem?_getD, List.getElem?_eq_getElem hi]; exact h1
      simp only [hsv, svA]
      unfold cells6
      rw [h1]
      rcases (show j = 0 ∨ j = 1 ∨ j = 2 ∨ j = 3 ∨ j = 4 ∨ j = 5 by omega) with rfl | rfl | rfl | rfl | rfl | rfl <;> rfl
  · rw [List.length_map] at hi
    obtain ⟨A', cap', h1, h2, h3, h4⟩ := hf K[i] (List.getElem_mem _)
    have hsv : (K.getD i (dCode, undef)).2 = .slice A' K[i].1.frame.length cap' := by rw [List.getD_eq_getElem?_getD, List.getElem?_eq_getElem hi]; exact h1
    rw [getD_fst K i hi]
    simp only [hsv, svA]
    exact ⟨h2, h4.ints h3⟩
/-- the watcher's blocks -/
structure WS (w : World) (B wb : Nat) (A : Option Addr) (lc : Nat) (l : List MMon) (tick : Int) (cb : Nat) (ns : List Int) (kb : Nat) (cs : List Int) (V : Value) (K : List (MCode × Value)) : Prop where
  hw : w.heap[wb]? = some (.cells #[.slice A l.length lc, .int .i64 tick, .slice (some ⟨cb, 0, none⟩) l.length l.length, .slice (some ⟨kb, 0, none⟩) l.length l.length, V] 88 (0, 0))
  mons : MonsA w B A l
  bw : B ≤ wb
  bc : B ≤ cb
  bk : B ≤ kb
  n1 : wb ≠ cb
  n2 : wb ≠ kb
  n3 : cb ≠ kb
  cnt : OwnF w cb 3 l.length (fun j => .int .i64 (ns.getD j 0))
  clm : OwnF w kb 3 l.length (fun j => .int .i64 (cs.getD j 0))
  row : RowC w B V K
  vb : ∀ g, V.ownBlock = some g → g ≠ wb ∧ g ≠ cb ∧ g ≠ kb
  frames : ∀ p ∈ K, FrameU w (fun b => b ≠ wb ∧ b ≠ cb ∧ b ≠ kb ∧ some b ≠ V.ownBlock ∧ B ≤ b) p
section
variable {w w' : World} {B wb : Nat} {A : Option Addr} {lc : Nat} {l : List MMon} {tick : Int} {cb : Nat} {ns : List Int} {kb : Nat} {cs : List Int} {V : Value} {K : List (MCode × Value)}
theorem WS.g (h : WS w B wb A lc l tick cb ns kb cs V K) (k : Nat) : w.cell? ⟨wb, k, none⟩ = (#[.slice A l.length lc, .int .i64 tick, .slice (some ⟨cb, 0, none⟩) l.length l.length, .slice (some ⟨kb, 0, none⟩) l.length l.length, V] : Array Value)[k]? := cell_of_row w wb k _ 88 (0, 0) h.hw
theorem WS.lt (h : WS w B wb A lc l tick cb ns kb cs V K) : wb < w.heap.size := by
  rcases Nat.lt_or_ge wb w.heap.size with hlt | hge
  · exact hlt
  · have := h.hw
    rw [Array.getElem?_eq_none hge] at this; cases this
theorem WS.below (h : WS w B wb A lc l tick cb ns kb cs V K) {B' : Nat} (hb : Below B' w w') (hB : w.heap.size ≤ B') : WS w' B wb A lc l tick cb ns kb cs V K := by
  have hwlt := h.lt
  have hvl := own_block_lt h.row
  have hBw : B ≤ B' := by have := h.bw; omega
  exact ⟨(hb.block wb (by omega)).trans h.hw, h.mons.below (hb.mono hBw) (Nat.le_refl _), h.bw, h.bc, h.bk, h.n1, h.n2, h.n3, h.cnt.below hb (by have := h.cnt.lt; omega), h.clm.below hb (by have := h.clm.lt; omega), own_below h.row hb (fun k hk => by have := (hvl k hk).2; omega), h.vb, fun p hp => (h.frames p hp).keep hb.size (fun b hb' _ => hb.block b (by omega)) (fun _ _ hu => hu)⟩
end
theorem WS.box {w w' : World} {B wb : Nat} {A : Option Addr} {lc : Nat} {l : List MMon} {tick : Int} {cb : Nat} {ns : List Int} {kb : Nat} {cs : List Int} {V : Value} {K : List (MCode × Value)}
    (h : WS w B wb A lc l tick cb ns kb cs V K) (hg : w.grownBy w' V.ownBlock) : w'.cell? ⟨wb, 4, none⟩ = some V ∧ w'.frozen? ⟨wb, 4, none⟩ = false := by
  have hne : some wb ≠ V.ownBlock := fun e => (h.vb wb e.symm).1 rfl
  have hh := (hg.block wb h.lt hne).trans h.hw
  exact ⟨cell_of_row w' wb 4 _ 88 (0, 0) hh, by simp [World.frozen?, hh]⟩
theorem WS.pushed {w w' : World} {B wb : Nat} {A : Option Addr} {lc : Nat} {l : List MMon} {tick : Int} {cb : Nat} {ns : List Int} {kb : Nat} {cs : List Int} {V : Value} {K : List (MCode × Value)}
    (h : WS w B wb A lc l tick cb ns kb cs V K) (hg : w.grownBy w' V.ownBlock) {g n cap : Nat} {p : MCode × Value} (hR : RowC w' B (.slice (some ⟨g, 0, none⟩) n cap) (K ++ [p])) (hat : V.ownBlock = some g ∨ g = w.heap.size) (hp : FrameU w (fun b => b ≠ wb ∧ b ≠ cb ∧ b ≠ kb ∧ some b ≠ V.ownBlock ∧ B ≤ b) p) :
    WS (w'.setCell ⟨wb, 4, none⟩ (.slice (some ⟨g, 0, none⟩) n cap)) B wb A lc l tick cb ns kb cs (.slice (some ⟨g, 0, none⟩) n cap) (K ++ [p]) := by
  have hlt := h.lt
  have hcl := h.cnt.lt
  have hkl := h.clm.lt
  have hBw := h.bw
  have hvl := own_block_lt h.row
  have hsz := hg.size
  have hg3 : g ≠ wb ∧ g ≠ cb ∧ g ≠ kb := by
    rcases hat with e | e
    · exact h.vb g e
    · omega
  have ne : ∀ b, b = wb ∨ b = cb ∨ b = kb → some b ≠ V.ownBlock := fun b hb e => by
    have := h.vb b e.symm
    rcases hb with rfl | rfl | rfl
    · exact this.1 rfl
    · exact this.2.1 rfl
    · exact this.2.2 rfl
  have hne := ne wb (.inl rfl)
  have hh := (hg.block wb hlt hne).trans h.hw
  have hbel : Below B w (w'.setCell ⟨wb, 4, none⟩ (.slice (some ⟨g, 0, none⟩) n cap)) := ((Below.refl _ _).grown hg (by omega) (fun k hk => (hvl k hk).1)).setCell hBw _
  refine ⟨?_, h.mons.below hbel (Nat.le_refl _), h.bw, h.bc, h.bk, h.n1, h.n2, h.n3, (h.cnt.grown hg (ne cb (.inr (.inl rfl)))).far (fun e => h.n1 e.symm) _, (h.clm.grown hg (ne kb (.inr (.inr rfl)))).far (fun e => h.n2 e.symm) _, ?_, fun k hk => ?_, fun q hq => ?_⟩
  · rw [heap_setCell_same w' wb 4 _ 88 _ hh]; rfl
  · obtain ⟨e1, e2⟩ := hR
    refine ⟨e1, ?_⟩
    rcases e2 with ⟨e2, _⟩ | ⟨g', cap', cur, hv, hb, hh2, r⟩
    · cases e2
    · refine .inr ⟨g', cap', cur, hv, hb, ?_, r⟩
      injection hv with hv _ _
      injection hv with hv
      injection hv with hv
      subst hv
      exact (Below.heap_setCell w' ⟨wb, 4, none⟩ _ g hg3.1).trans hh2
  · injection hk with hk
    subst hk
    exact hg3
  · have hkeep : ∀ b, b < w.heap.size → (b ≠ wb ∧ b ≠ cb ∧ b ≠ kb ∧ some b ≠ V.ownBlock ∧ B ≤ b) → (w'.setCell ⟨wb, 4, none⟩ (.slice (some ⟨g, 0, none⟩) n cap)).heap[b]? = w.heap[b]? := fun b hb hu => (Below.heap_setCell w' ⟨wb, 4, none⟩ _ b hu.1).trans (hg.block b hb hu.2.2.2.1)
    have hU : ∀ b, b < w.heap.size → (b ≠ wb ∧ b ≠ cb ∧ b ≠ kb ∧ some b ≠ V.ownBlock ∧ B ≤ b) → (b ≠ wb ∧ b ≠ cb ∧ b ≠ kb ∧ some b ≠ Value.ownBlock (.slice (some ⟨g, 0, none⟩) n cap) ∧ B ≤ b) := fun b hb hu => ⟨hu.1, hu.2.1, hu.2.2.1, fun e => (by
      have e : some b = some g := e
      injection e with e
      subst e
      rcases hat with hat | hat
      · exact hu.2.2.2.1 hat.symm
      · omega), hu.2.2.2.2⟩
    rcases List.mem_append.1 hq with hq | hq
    · exact (h.frames q hq).keep (by simpa using hsz) hkeep hU
    · rw [List.mem_singleton] at hq
      subst hq
      exact hp.keep (by simpa using hsz) hkeep hU
theorem step_clone {ops : Array Oper} {o : Oper} {a : Act} {K : Act → World → Prop} {Q : Exit → Act → World → Prop} {E : Prop} (w : World) (hg : o.guard = none) (x : Operand) (ho : o.op = .call { callee := .value (.func 79), args := #[x], argTypes := #[24] }) (O : Option Addr) (cap : Nat) (os : List Int) (hx : a.eval x = .slice O os.length cap) (h : IntsA w w.heap.size O os) (hl : os.length ≤ 1000)
    (hK : ∀ v w2, OutI w2 w.heap.size v os → Below w.heap.size w w2 → K (a.put o.dst v) w2) :
    if Region.wanted o (yielded ops a.tmps) = true then Oper.wp Tryd.prog o a w K Q else E := by
  rw [if_pos (by simp [Region.wanted, hg])]
  have hC := clone_ints O cap os w h hl
  have hf : a.eval (.func 79) = .func (.func 79) #[] #[] := rfl
  unfold Oper.wp execOp
  simp only [ho, resolve, invoke, Sem.run_bind, List.map_toArray, List.map_cons, List.map_nil, hx, hf]
  simp [go_sem]
  refine hC.mono ?_
  rintro e w2 ⟨v, rfl, hO, hb⟩
  exact hK v w2 hO hb
theorem step_insert {ops : Array Oper} {o : Oper} {a : Act} {K : Act → World → Prop} {Q : Exit → Act → World → Prop} {E : Prop} (w : World) (hg : o.guard = none) (x y z : Operand) (ho : o.op = .call { callee := .value (.func 114), args := #[x, y, z], argTypes := #[25, 3, 25] }) (V : Value) (KK : List (MCode × Value)) (nb : Nat) (p : MCode × Value) (base : Nat)
    (hx : a.eval x = V) (hy : a.eval y = .int .i64 (KK.length : Int)) (hz : a.eval z = .slice (some ⟨nb, 0, none⟩) 1 1) (h : RowC w base V KK) (hp : p.2.oneCell' = true) (hc : ∀ j u, (cells6 p)[j]? = some u → w.cell? ⟨nb, j, none⟩ = some u) (hlen : KK.length ≤ 1000000) (hbase : base ≤ w.heap.size)
    (hK : ∀ g cap w2, RowC w2 base (.slice (some ⟨g, 0, none⟩) (KK.length + 1) cap) (KK ++ [p]) → w.grownBy w2 V.ownBlock → (V.ownBlock = some g ∨ g = w.heap.size) → K (a.put o.dst (.slice (some ⟨g, 0, none⟩) (KK.length + 1) cap)) w2) :
    if Region.wanted o (yielded ops a.tmps) = true then Oper.wp Tryd.prog o a w K Q else E := by
  rw [if_pos (by simp [Region.wanted, hg])]
  have hC := insert_end V KK nb p base w h hp hc hlen hbase
  have hf : a.eval (.func 114) = .func (.func 114) #[] #[] := rfl
  unfold Oper.wp execOp
  simp only [ho, resolve, invoke, Sem.run_bind, List.map_toArray, List.map_cons, List.map_nil, hx, hy, hz, hf]
  simp [go_sem]
  refine hC.mono ?_
  rintro e w2 ⟨⟨g, cap, rfl, hR, hat⟩, hg⟩
  exact hK g cap w2 hR hg hat
end Go.Proofs.YtonpemikodajdaaDoor
