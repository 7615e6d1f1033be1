/- Walk: code, where a code is new, at any place. Printed by wi.py. -/
import Derived.Test.YtonpemikodajdaaDoorWt8
import Derived.Test.YtonpemikodajdaaDoorIm
import Derived.Test.YtonpemikodajdaaDoorWh
namespace Go.Proofs.YtonpemikodajdaaDoor
open Go.RowKit

theorem WS.putIn {w w' : World} {B wb : Nat} {A : Option Addr} {lc : Caps} {l : List MMon} {tick : Int} {cb : Nat} {ns : List Int} {kb : Nat} {cs : List Int} {V : Value} {K : List (MCode × Value)} {ix : Nat}
    (h : WS w B wb A lc l tick cb ns kb cs V K) (hg : w.grownBy w' V.ownBlock) {g n cap : Nat} {p : MCode × Value} (hR : RowC w' B (.slice (some ⟨g, 0, none⟩) n cap) (K.take ix ++ p :: K.drop ix)) (hat : V.ownBlock = some g ∨ g = w.heap.size) (hp : FrameU w (fun b => b ≠ wb ∧ b ≠ cb ∧ b ≠ kb ∧ some b ≠ V.ownBlock ∧ B ≤ b) p) :
    WS (w'.setCell ⟨wb, 4, none⟩ (.slice (some ⟨g, 0, none⟩) n cap)) B wb A lc l tick cb ns kb cs (.slice (some ⟨g, 0, none⟩) n cap) (K.take ix ++ p :: K.drop ix) := by
  have hlt := h.lt
  have hcl := h.cnt.lt
  have hkl := h.clm.lt
  have hBw := h.bw
  have hvl := own_block_lt h.row
  have hsz := hg.size
  have hg3 : g ≠ wb ∧ g ≠ cb ∧ g ≠ kb := by
    rcases hat with e | e
    · exact h.vb g e
    · omega
  have ne : ∀ b, b = wb ∨ b = cb ∨ b = kb → some b ≠ V.ownBlock := fun b hb e => by
    have := h.vb b e.symm
    rcases hb with rfl | rfl | rfl
    · exact this.1 rfl
    · exact this.2.1 rfl
    · exact this.2.2 rfl
  have hh := (hg.block wb hlt (ne wb (.inl rfl))).trans h.hw
  have hbel : Below B w (w'.setCell ⟨wb, 4, none⟩ (.slice (some ⟨g, 0, none⟩) n cap)) := ((Below.refl _ _).grown hg (by omega) (fun k hk => (hvl k hk).1)).setCell hBw _
  refine ⟨?_, h.mons.below hbel (Nat.le_refl _), h.bw, h.bc, h.bk, h.n1, h.n2, h.n3, (h.cnt.grown hg (ne cb (.inr (.inl rfl)))).far (fun e => h.n1 e.symm) _, (h.clm.grown hg (ne kb (.inr (.inr rfl)))).far (fun e => h.n2 e.symm) _, ?_, fun k hk => ?_, fun q hq => ?_⟩
  · rw [heap_setCell_same w' wb 4 _ 88 _ hh]; rfl
  · exact hR.keep fun k hk => by
      injection hk with hk
      subst hk
      exact Below.heap_setCell w' ⟨wb, 4, none⟩ _ _ hg3.1
  · injection hk with hk
    subst hk
    exact hg3
  · have hkeep : ∀ b, b < w.heap.size → (b ≠ wb ∧ b ≠ cb ∧ b ≠ kb ∧ some b ≠ V.ownBlock ∧ B ≤ b) → (w'.setCell ⟨wb, 4, none⟩ (.slice (some ⟨g, 0, none⟩) n cap)).heap[b]? = w.heap[b]? := fun b hb hu => (Below.heap_setCell w' ⟨wb, 4, none⟩ _ b hu.1).trans (hg.block b hb hu.2.2.2.1)
    have hU : ∀ b, b < w.heap.size → (b ≠ wb ∧ b ≠ cb ∧ b ≠ kb ∧ some b ≠ V.ownBlock ∧ B ≤ b) → (b ≠ wb ∧ b ≠ cb ∧ b ≠ kb ∧ some b ≠ Value.ownBlock (.slice (some ⟨g, 0, none⟩) n cap) ∧ B ≤ b) := fun b hb hu => ⟨hu.1, hu.2.1, hu.2.2.1, fun e => (by
      have e : some b = some g := e
      injection e with e
      subst e
      rcases hat with hat | hat
      · exact hu.2.2.2.1 hat.symm
      · omega), hu.2.2.2.2⟩
    have hq' : q = p ∨ q ∈ K := by
      rcases List.mem_append.1 hq with hq | hq
      · exact .inr (List.mem_of_mem_take hq)
      · rcases List.mem_cons.1 hq with hq | hq
        · exact .inl hq
        · exact .inr (List.mem_of_mem_drop hq)
    rcases hq' with rfl | hq
    · exact hp.keep (by simpa using hsz) hkeep hU
    · exact (h.frames q hq).keep (by simpa using hsz) hkeep hU
theorem step_ins {ops : Array Oper} {o : Oper} {a : Act} {K : Act → World → Prop} {Q : Exit → Act → World → Prop} {E : Prop} (w : World) (hg : o.guard = none) (x y z : Operand) (ho : o.op = .call { callee := .value (.func 114), args := #[x, y, z], argTypes := #[25, 3, 25] }) (V : Value) (KK : List (MCode × Value)) (nb : Nat) (p : MCode × Value) (base : Nat) {ix : Nat}
    (hx : a.eval x = V) (hy : a.eval y = .int .i64 (ix : Int)) (hz : a.eval z = .slice (some ⟨nb, 0, none⟩) 1 1) (hix : ix ≤ KK.length) (hone : ∀ p ∈ KK, p.2.oneCell' = true) (h : RowC w base V KK) (hp : p.2.oneCell' = true) (hnb : w.heap[nb]? = some (.cells (cells6 p).toArray 46 (0, 0))) (hne : V.ownBlock ≠ some nb) (hlen : KK.length ≤ 1000000) (hbase : base ≤ w.heap.size)
    (hK : ∀ g cap w2, RowC w2 base (.slice (some ⟨g, 0, none⟩) (KK.length + 1) cap) (KK.take ix ++ p :: KK.drop ix) → w.grownBy w2 V.ownBlock → (V.ownBlock = some g ∨ g = w.heap.size) → K (a.put o.dst (.slice (some ⟨g, 0, none⟩) (KK.length + 1) cap)) w2) :
    if Region.wanted o (yielded ops a.tmps) = true then Oper.wp Tryd.prog o a w K Q else E := by
  rw [if_pos (by simp [Region.wanted, hg])]
  have hC := insert_any V ix nb KK p base w h hix hone hp hnb hne hlen hbase
  have hf : a.eval (.func 114) = .func (.func 114) #[] #[] := rfl
  unfold Oper.wp execOp
  simp only [ho, resolve, invoke, Sem.run_bind, List.map_toArray, List.map_cons, List.map_nil, hx, hy, hz, hf]
  simp [go_sem]
  refine hC.mono ?_
  rintro e w2 ⟨⟨g, cap, rfl, hR, hat⟩, hg⟩
  exact hK g cap w2 hR hg hat
theorem ins_done {w w1 w2 w6 : World} {B wb : Nat} {A : Option Addr} {lc : Caps} {l : List MMon} {tick : Int} {cb : Nat} {ns : List Int} {kb : Nat} {cs : List Int} {V : Value} {K : List (MCode × Value)} {ix : Nat} {o : Obj} {g n cap' cf : Nat} {Af : Option Addr} {row : List Int} {c : MCode}
    (h1 : WS w1.drew B wb A lc l tick cb ns kb cs V K) (h2 : WS w2 B wb A lc l tick cb ns kb cs V K) (hb2 : Below w1.drew.heap.size w1.drew w2) (hg : (w2.alloc o).grownBy w6 V.ownBlock) (hR : RowC w6 B (.slice (some ⟨g, 0, none⟩) n cap') (K.take ix ++ (c, .slice Af row.length cf) :: K.drop ix)) (hat : V.ownBlock = some g ∨ g = (w2.alloc o).heap.size)
    (hO : OutI w2 w1.drew.heap.size (.slice Af row.length cf) row) (hcf : row.length ≤ cf) (hrl : row.length ≤ 1000) (hb1 : Below w.heap.size w w1) (hBw : B ≤ w.heap.size) (hc : c.frame = row) :
    WS (w6.setCell ⟨wb, 4, none⟩ (.slice (some ⟨g, 0, none⟩) n cap')) B wb A lc l tick cb ns kb cs (.slice (some ⟨g, 0, none⟩) n cap') (K.take ix ++ (c, .slice Af row.length cf) :: K.drop ix) ∧ Below B w (w6.setCell ⟨wb, 4, none⟩ (.slice (some ⟨g, 0, none⟩) n cap')) := by
  have h3 := h2.below ((Below.refl _ _).alloc (Nat.le_refl _) o) (Nat.le_refl _)
  have hs1 := hb1.size
  have hsd : w1.drew.heap.size = w1.heap.size := rfl
  have hs2 := hb2.size
  have hfr : FrameU w2 (fun b => b ≠ wb ∧ b ≠ cb ∧ b ≠ kb ∧ some b ≠ V.ownBlock ∧ B ≤ b) (c, .slice Af row.length cf) := frame_new hc hO hcf (by unfold maxLen; omega) fun b hb => ⟨fun e => by have := h1.lt; omega, fun e => by have := h1.cnt.lt; omega, fun e => by have := h1.clm.lt; omega, fun e => by have := (own_block_lt h1.row b e.symm).2; omega, by omega⟩
  have hf3 : FrameU (w2.alloc o) (fun b => b ≠ wb ∧ b ≠ cb ∧ b ≠ kb ∧ some b ≠ V.ownBlock ∧ B ≤ b) (c, .slice Af row.length cf) := hfr.keep (by simp) (fun b hb _ => Below.heap_alloc w2 o b hb) (fun _ _ hu => hu)
  refine ⟨h3.putIn hg hR hat hf3, ?_⟩
  have hb3 : Below B w1 (w2.alloc o) := ((Below.refl w1.heap.size w1).drew.trans (hb2.alloc hs2 o)).mono (by omega)
  have hvl := own_block_lt h3.row
  exact ((hb1.mono hBw).trans hb3 |>.grown hg (by simp; omega) (fun k hk => (hvl k hk).1)).setCell h1.bw _
set_option maxRecDepth 100000 in
set_option maxHeartbeats 4000000 in
theorem code_ins {w : World} {B wb : Nat} {A : Option Addr} {lc : Caps} {l : List MMon} {tick : Int} {cb : Nat} {ns : List Int} {kb : Nat} {cs : List Int} {V : Value} {K : List (MCode × Value)}
    (hS : WS w B wb A lc l tick cb ns kb cs V K) (hl : l.length ≤ 20) (hK : K.length ≤ 1000000) (hasc : AscC (K.map Prod.fst)) (i : Nat) (hi : i < l.length) (m : MMon) (hm : l[i]? = some m) (R : Option Addr) (rc : Nat) (row : List Int)
    (hrow : IntsA w B R row) (hrl : row.length ≤ 1000) (ix : Nat) (hf : FindP (K.map Prod.fst) i ix false) (hn : ns.getD i 0 = m.limit) :
    Calls Tryd.prog 90 #[.pointer (some ⟨wb, 0, none⟩), .int .i64 i, .slice R row.length rc] w fun e w' => e = .returned (.tuple #[]) ∧ (∃ V' v, WS w' B wb A lc l tick cb ns kb cs V' (K.take ix ++ (⟨i, tick, tick, 1, row, true⟩, v) :: K.drop ix)) ∧ Below B w w' := by
  obtain ⟨Av, cap, rfl, hcap⟩ := hS.row.lenV
  have hC := find_at Av cap (K.map Prod.fst) i w (RowC.codes hS.row hS.frames hK) hasc (by omega) hf
  rw [List.length_map] at hC
  have HC := Lib.hid hC
  have hb0 : ∀ w', Below w.heap.size w w' → WS w' B wb A lc l tick cb ns kb cs (.slice Av K.length cap) K := fun w' hb => hS.below hb (Nat.le_refl _)
  have HB := Lib.hid hb0
  have hix : ix ≤ K.length := by have := hf.1; simpa using this
  have hBw := Nat.lt_of_le_of_lt hS.bw hS.lt
  have g4 := hS.g 4
  simp at g4
  clear hC hb0
  obtain ⟨m', b, off, ht, hA, hblt, hcs⟩ := hS.mons.at_ hi
  subst hA
  clear ht hcs m'
  have HM := Lib.hid hm
  have HN := Lib.hid hn
  have HROW := Lib.hid hrow
  clear hm hn hrow
  go_enter Tryd.func90, Tryd.ntmps90
  go_wp2_with (go_at_call 106; refine HC.out.mono ?_; rintro e w1 ⟨rfl, hb1⟩; have HS1 := HB.out _ hb1; have g0 := HS1.g 0; simp at g0; have g2 := HS1.g 2; simp at g2; have c0 := HS1.cnt.cell hi; rw [HN.out] at c0; have t5 := HS1.mons.get HM.out 5 (by decide); simp at t5)
  have g14 := HS1.g 4
  have g11 := HS1.g 1
  simp at g14 g11
  have hSd := HS1.below (Below.refl w1.heap.size w1).drew (Nat.le_refl _)
  have hRd : IntsA w1.drew w1.drew.heap.size R row := ((HROW.out.keep (hb1.mono (Nat.le_of_lt hBw))).more (by have := hb1.size; show _ ≤ w1.heap.size; omega)).drewN 1
  have e1 : w1.drew.cell? ⟨wb, 1, none⟩ = some (.int .i64 tick) := g11
  have HSD := Lib.hid hSd
  have HRD := Lib.hid hRd
  have HKK := Lib.hid hK
  have HFF := Lib.hid hf
  have HAS := Lib.hid hasc
  have HB1 := Lib.hid hb1
  have HBW := Lib.hid (Nat.le_of_lt hBw)
  clear hS HS1 g0 g2 c0 t5 hb1 HB HC HM HN HROW g4 hSd hRd hK hf hasc hcap hBw hblt hl
  refine wp_region_held_drew (S := fun w' => w'.cell? ⟨wb, 1, none⟩ = some (.int .i64 tick)) (by kernel_rfl) e1 (fun hHeld => ?_)
  refine wpAnyH_take (i := 0) (v := ?_) (by simp only [List.getElem?_toArray, List.getElem?_cons_zero]; rfl) (by kernel_rfl) (by kernel_rfl) (by kernel_rfl) (by exact fun _ _ _ h => h) (Or.inl ⟨by rfl, ?_⟩) (by assumption) ?_
  rotate_left 1
  · (intro w hSw; (try dsimp only at hSw); go_simp <;> with_reducible rfl)
  try simp only [Act.put, List.setIfInBounds_toArray, List.set_cons_zero, List.set_cons_succ]
  refine wpAnyH_take (i := 1) (v := ?_) (by simp only [List.getElem?_toArray, List.getElem?_cons_succ, List.getElem?_cons_zero]; rfl) (by kernel_rfl) (by kernel_rfl) (by kernel_rfl) (by exact fun _ _ _ h => h) (Or.inl ⟨by rfl, ?_⟩) (by assumption) ?_
  rotate_left 1
  · (intro w hSw; (try dsimp only at hSw); go_simp <;> with_reducible rfl)
  try simp only [Act.put, List.setIfInBounds_toArray, List.set_cons_zero, List.set_cons_succ]
  refine wpAnyH_take (i := 2) (v := ?_) (by simp only [List.getElem?_toArray, List.getElem?_cons_succ, List.getElem?_cons_zero]; rfl) (by kernel_rfl) (by kernel_rfl) (by kernel_rfl) (by exact fun _ _ _ h => h) (Or.inl ⟨by rfl, ?_⟩) (by assumption) ?_
  rotate_left 1
  · (intro w hSw; (try dsimp only at hSw); go_simp <;> with_reducible rfl)
  try simp only [Act.put, List.setIfInBounds_toArray, List.set_cons_zero, List.set_cons_succ]
  refine wpAnyH_take (i := 3) (v := ?_) (by simp only [List.getElem?_toArray, List.getElem?_cons_succ, List.getElem?_cons_zero]; rfl) (by kernel_rfl) (by kernel_rfl) (by kernel_rfl) (by exact fun _ _ _ h => h) (Or.inl ⟨by rfl, ?_⟩) (by assumption) ?_
  rotate_left 1
  · (intro w hSw; (try dsimp only at hSw); go_simp <;> with_reducible rfl)
  try simp only [Act.put, List.setIfInBounds_toArray, List.set_cons_zero, List.set_cons_succ]
  refine wpAnyH_take (i := 4) (v := ?_) (by simp only [List.getElem?_toArray, List.getElem?_cons_succ, List.getElem?_cons_zero]; rfl) (by kernel_rfl) (by kernel_rfl) (by kernel_rfl) (by exact fun _ _ _ h => h) (Or.inl ⟨by rfl, ?_⟩) (by assumption) ?_
  rotate_left 1
  · (intro w hSw; (try dsimp only at hSw); go_simp <;> with_reducible rfl)
  try simp only [Act.put, List.setIfInBounds_toArray, List.set_cons_zero, List.set_cons_succ]
  refine wpAnyH_take (i := 6) (v := ?_) (by simp only [List.getElem?_toArray, List.getElem?_cons_succ, List.getElem?_cons_zero]; rfl) (by kernel_rfl) (by kernel_rfl) (by kernel_rfl) (by exact fun _ _ _ h => h) (Or.inl ⟨by rfl, ?_⟩) (by assumption) ?_
  rotate_left 1
  · (intro w hSw; (try dsimp only at hSw); go_simp <;> with_reducible rfl)
  try simp only [Act.put, List.setIfInBounds_toArray, List.set_cons_zero, List.set_cons_succ]
  refine wpAnyH_take (i := 7) (v := ?_) (by simp only [List.getElem?_toArray, List.getElem?_cons_succ, List.getElem?_cons_zero]; rfl) (by kernel_rfl) (by kernel_rfl) (by kernel_rfl) (by exact fun _ _ _ h => h) (Or.inl ⟨by rfl, ?_⟩) (by assumption) ?_
  rotate_left 1
  · (intro w hSw; (try dsimp only at hSw); go_simp <;> with_reducible rfl)
  try simp only [Act.put, List.setIfInBounds_toArray, List.set_cons_zero, List.set_cons_succ]
  refine wpAnyH_take (i := 8) (v := ?_) (by simp only [List.getElem?_toArray, List.getElem?_cons_succ, List.getElem?_cons_zero]; rfl) (by kernel_rfl) (by kernel_rfl) (by kernel_rfl) (by exact fun _ _ _ h => h) (Or.inl ⟨by rfl, ?_⟩) (by assumption) ?_
  rotate_left 1
  · (intro w hSw; (try dsimp only at hSw); go_simp <;> with_reducible rfl)
  try simp only [Act.put, List.setIfInBounds_toArray, List.set_cons_zero, List.set_cons_succ]
  refine wpAnyH_take (i := 9) (v := ?_) (by simp only [List.getElem?_toArray, List.getElem?_cons_succ, List.getElem?_cons_zero]; rfl) (by kernel_rfl) (by kernel_rfl) (by kernel_rfl) (by exact fun _ _ _ h => h) (Or.inl ⟨by rfl, ?_⟩) (by assumption) ?_
  rotate_left 1
  · (intro w hSw; (try dsimp only at hSw); go_simp <;> with_reducible rfl)
  try simp only [Act.put, List.setIfInBounds_toArray, List.set_cons_zero, List.set_cons_succ]
  refine wpAnyH_take (i := 10) (v := ?_) (by simp only [List.getElem?_toArray, List.getElem?_cons_succ, List.getElem?_cons_zero]; rfl) (by kernel_rfl) (by kernel_rfl) (by kernel_rfl) (by exact fun _ _ _ h => h) (Or.inl ⟨by rfl, ?_⟩) (by assumption) ?_
  rotate_left 1
  · (intro w hSw; (try dsimp only at hSw); go_simp <;> with_reducible rfl)
  try simp only [Act.put, List.setIfInBounds_toArray, List.set_cons_zero, List.set_cons_succ]
  refine wpAnyH_take (i := 11) (v := ?_) (by simp only [List.getElem?_toArray, List.getElem?_cons_succ, List.getElem?_cons_zero]; rfl) (by kernel_rfl) (by kernel_rfl) (by kernel_rfl) (by exact fun _ _ _ h => h) (Or.inl ⟨by rfl, ?_⟩) (by assumption) ?_
  rotate_left 1
  · (intro w hSw; (try dsimp only at hSw); go_simp <;> with_reducible rfl)
  try simp only [Act.put, List.setIfInBounds_toArray, List.set_cons_zero, List.set_cons_succ]
  refine wpAnyH_take (i := 12) (v := ?_) (by simp only [List.getElem?_toArray, List.getElem?_cons_succ, List.getElem?_cons_zero]; rfl) (by kernel_rfl) (by kernel_rfl) (by kernel_rfl) (by exact fun _ _ _ h => h) (Or.inl ⟨by rfl, ?_⟩) (by assumption) ?_
  rotate_left 1
  · (intro w hSw; (try dsimp only at hSw); go_simp <;> with_reducible rfl)
  try simp only [Act.put, List.setIfInBounds_toArray, List.set_cons_zero, List.set_cons_succ]
  refine wpAnyH_take (i := 13) (v := ?_) (by simp only [List.getElem?_toArray, List.getElem?_cons_succ, List.getElem?_cons_zero]; rfl) (by kernel_rfl) (by kernel_rfl) (by kernel_rfl) (by exact fun _ _ _ h => h) (Or.inl ⟨by rfl, ?_⟩) (by assumption) ?_
  rotate_left 1
  · (intro w hSw; (try dsimp only at hSw); go_simp <;> with_reducible rfl)
  try simp only [Act.put, List.setIfInBounds_toArray, List.set_cons_zero, List.set_cons_succ]
  refine wpAnyH_take (i := 14) (v := ?_) (by simp only [List.getElem?_toArray, List.getElem?_cons_succ, List.getElem?_cons_zero]; rfl) (by kernel_rfl) (by kernel_rfl) (by kernel_rfl) (by exact fun _ _ _ h => h) (Or.inl ⟨by rfl, ?_⟩) (by assumption) ?_
  rotate_left 1
  · (intro w hSw; (try dsimp only at hSw); go_simp <;> with_reducible rfl)
  try simp only [Act.put, List.setIfInBounds_toArray, List.set_cons_zero, List.set_cons_succ]
  refine wpAnyH_take (i := 15) (v := ?_) (by simp only [List.getElem?_toArray, List.getElem?_cons_succ, List.getElem?_cons_zero]; rfl) (by kernel_rfl) (by kernel_rfl) (by kernel_rfl) (by exact fun _ _ _ h => h) (Or.inl ⟨by rfl, ?_⟩) (by assumption) ?_
  rotate_left 1
  · (intro w hSw; (try dsimp only at hSw); go_simp <;> with_reducible rfl)
  try simp only [Act.put, List.setIfInBounds_toArray, List.set_cons_zero, List.set_cons_succ]
  refine wpAnyH_take (i := 16) (v := ?_) (by simp only [List.getElem?_toArray, List.getElem?_cons_succ, List.getElem?_cons_zero]; rfl) (by kernel_rfl) (by kernel_rfl) (by kernel_rfl) (by exact fun _ _ _ h => h) (Or.inl ⟨by rfl, ?_⟩) (by assumption) ?_
  rotate_left 1
  · (intro w hSw; (try dsimp only at hSw); go_simp <;> with_reducible rfl)
  try simp only [Act.put, List.setIfInBounds_toArray, List.set_cons_zero, List.set_cons_succ]
  refine wpAnyH_take (i := 17) (v := ?_) (by simp only [List.getElem?_toArray, List.getElem?_cons_succ, List.getElem?_cons_zero]; rfl) (by kernel_rfl) (by kernel_rfl) (by kernel_rfl) (by exact fun _ _ _ h => h) (Or.inl ⟨by rfl, ?_⟩) (by assumption) ?_
  rotate_left 1
  · (intro w hSw; (try dsimp only at hSw); go_simp <;> with_reducible rfl)
  try simp only [Act.put, List.setIfInBounds_toArray, List.set_cons_zero, List.set_cons_succ]
  refine wpAnyH_take (i := 18) (v := ?_) (by simp only [List.getElem?_toArray, List.getElem?_cons_succ, List.getElem?_cons_zero]; rfl) (by kernel_rfl) (by kernel_rfl) (by kernel_rfl) (by exact fun _ _ _ h => h) (Or.inl ⟨by rfl, ?_⟩) (by assumption) ?_
  rotate_left 1
  · (intro w hSw; (try dsimp only at hSw); go_simp <;> with_reducible rfl)
  try simp only [Act.put, List.setIfInBounds_toArray, List.set_cons_zero, List.set_cons_succ]
  refine wpAnyH_ready (rs := [5, 19]) (by kernel_rfl) (by simp) ?_
  refine AllReadyH.cons (by simp only [List.getElem?_toArray, List.getElem?_cons_succ, List.getElem?_cons_zero]; rfl) (fun KQ hK => ?_) ?_
  · skip
    go_simp
    refine hK.out _ _ ?_ (fun hHeld => ?_)
    · exact e1
    clear hK KQ
    try simp only [Act.put, List.setIfInBounds_toArray, List.set_cons_zero, List.set_cons_succ]
    clear g14 g11 e1
    refine wpAnyH_ready (rs := [19]) (by kernel_rfl) (by simp) ?_
    refine AllReadyH.cons (by simp only [List.getElem?_toArray, List.getElem?_cons_succ, List.getElem?_cons_zero]; rfl) (fun KQ hK => ?_) ?_
    · skip
      refine step_clone _ (by rfl) _ (by rfl) R rc row (by rfl) HRD.out hrl ?_
      intro v w2 hO hb2
      obtain ⟨Af, cf, rfl, hcf, hfb⟩ := hO.lenV
      have HO := Lib.hid hO
      have HCF := Lib.hid hcf
      clear hO hfb hcf
      have HS2 := Lib.hid (HSD.out.below hb2 (Nat.le_refl _))
      have HB2 := Lib.hid hb2
      clear hb2
      have e2 : w2.cell? ⟨wb, 1, none⟩ = some (.int .i64 tick) := (by simpa using HS2.out.g 1)
      have E3 : Hid (∀ o : Obj, (w2.alloc o).cell? ⟨wb, 1, none⟩ = some (.int .i64 tick)) := fun o => (acell w2 o wb 1 HS2.out.lt).trans e2
      have G24 : Hid (w2.cell? ⟨wb, 4, none⟩ = some (.slice Av K.length cap)) := (by have := HS2.out.g 4; simp at this; exact this)
      refine hK.out _ _ ?_ (fun hHeld => ?_)
      · exact e2
      clear hK KQ
      try simp only [Act.put, List.setIfInBounds_toArray, List.set_cons_zero, List.set_cons_succ]
      clear e2
      refine wpAnyH_take (i := 20) (v := .agg #[.int .i64 i, .int .i64 tick, .int .i64 tick, .int .i64 1, .slice Af row.length cf, .bool true]) (by simp only [List.getElem?_toArray, List.getElem?_cons_succ, List.getElem?_cons_zero]; rfl) (by kernel_rfl) (by kernel_rfl) (by kernel_rfl) (by exact fun _ _ _ h => h) (yields_code (by rfl) (.tmp 50) (.tmp 55) (.tmp 60) (.const (.int .i64 1)) (.tmp 62) (.const (.bool true)) (by rfl) i tick tick 1 Af row.length cf true (by rfl) (by rfl) (by rfl) (by rfl) (by rfl) (by rfl)) (by assumption) ?_
      try simp only [Act.put, List.setIfInBounds_toArray, List.set_cons_zero, List.set_cons_succ]
      refine wpAnyH_ready (rs := [21]) (by kernel_rfl) (by simp) ?_
      refine AllReadyH.cons (by simp only [List.getElem?_toArray, List.getElem?_cons_succ, List.getElem?_cons_zero]; rfl) (fun KQ hK => ?_) ?_
      · skip
        refine step_bslice _ (by rfl) _ (by rfl) i tick tick 1 Af row.length cf true (by rfl) ?_
        refine hK.out _ _ ?_ (fun hHeld => ?_)
        · exact E3.out _
        clear hK KQ
        try simp only [Act.put, List.setIfInBounds_toArray, List.set_cons_zero, List.set_cons_succ]
        refine wpAnyH_ready (rs := [22]) (by kernel_rfl) (by simp) ?_
        refine AllReadyH.cons (by simp only [List.getElem?_toArray, List.getElem?_cons_succ, List.getElem?_cons_zero]; rfl) (fun KQ hK => ?_) ?_
        · skip
          refine step_ins _ (by rfl) _ _ _ (by rfl) (.slice Av K.length cap) K w2.heap.size (⟨i, tick, tick, 1, row, true⟩, .slice Af row.length cf) B (by rfl) (by rfl) (by rfl) hix (fun q hq => frame_one (HS2.out.frames q hq)) (HS2.out.below ((Below.refl _ _).alloc (Nat.le_refl _) _) (Nat.le_refl _)).row (by rfl) (heap_alloc_new _ _) (fun e => by have := (own_block_lt HS2.out.row _ e).2; omega) HKK.out (by have := HS2.out.lt; have := HS2.out.bw; simp; omega) ?_
          intro g cap' w6 hR hg6 hat
          have HR6 := Lib.hid hR
          have HG6 := Lib.hid hg6
          have HAT := Lib.hid hat
          have HBX := Lib.hid ((HS2.out.below ((Below.refl _ _).alloc (Nat.le_refl _) _) (Nat.le_refl _)).box hg6)
          have E6 : Hid (w6.cell? ⟨wb, 1, none⟩ = some (.int .i64 tick)) := (World.cell?_of_block (a := ⟨wb, 1, none⟩) (hg6.block wb (by have := HS2.out.lt; simp; omega) (fun e => (HS2.out.vb wb e.symm).1 rfl))).trans (E3.out _)
          clear hR hg6 hat
          refine hK.out _ _ ?_ (fun hHeld => ?_)
          · exact E6.out
          clear hK KQ
          try simp only [Act.put, List.setIfInBounds_toArray, List.set_cons_zero, List.set_cons_succ]
          refine wpAnyH_take (i := 23) (v := ?_) (by simp only [List.getElem?_toArray, List.getElem?_cons_succ, List.getElem?_cons_zero]; rfl) (by kernel_rfl) (by kernel_rfl) (by kernel_rfl) (by exact fun _ _ _ h => h) (Or.inl ⟨by rfl, ?_⟩) (by assumption) ?_
          rotate_left 1
          · (intro w hSw; (try dsimp only at hSw); go_simp <;> with_reducible rfl)
          try simp only [Act.put, List.setIfInBounds_toArray, List.set_cons_zero, List.set_cons_succ]
          refine wpAnyH_take (i := 24) (v := ?_) (by simp only [List.getElem?_toArray, List.getElem?_cons_succ, List.getElem?_cons_zero]; rfl) (by kernel_rfl) (by kernel_rfl) (by kernel_rfl) (by exact fun _ _ _ h => h) (Or.inl ⟨by rfl, ?_⟩) (by assumption) ?_
          rotate_left 1
          · (intro w hSw; (try dsimp only at hSw); go_simp <;> with_reducible rfl)
          try simp only [Act.put, List.setIfInBounds_toArray, List.set_cons_zero, List.set_cons_succ]
          refine wpAnyH_take (i := 25) (v := ?_) (by simp only [List.getElem?_toArray, List.getElem?_cons_succ, List.getElem?_cons_zero]; rfl) (by kernel_rfl) (by kernel_rfl) (by kernel_rfl) (by exact fun _ _ _ h => h) (Or.inl ⟨by rfl, ?_⟩) (by assumption) ?_
          rotate_left 1
          · (intro w hSw; (try dsimp only at hSw); go_simp <;> with_reducible rfl)
          try simp only [Act.put, List.setIfInBounds_toArray, List.set_cons_zero, List.set_cons_succ]
          refine wpAnyH_ready (rs := [26]) (by kernel_rfl) (by simp) ?_
          refine AllReadyH.cons (by simp only [List.getElem?_toArray, List.getElem?_cons_succ, List.getElem?_cons_zero]; rfl) (fun KQ hK => ?_) ?_
          · skip
            have hy := HBX.out.1
            have hz := HBX.out.2
            go_simp
            clear hy hz
            refine hK.out _ _ ?_ (fun hHeld => ?_)
            · exact (World.cell?_setCell_other w6 _ _ _ (by simp)).trans E6.out
            clear hK KQ
            try simp only [Act.put, List.setIfInBounds_toArray, List.set_cons_zero, List.set_cons_succ]
            refine wpAnyH_done (by kernel_rfl) ?_ _
            have HF := Lib.hid (ins_done HSD.out HS2.out HB2.out HG6.out HR6.out HAT.out HO.out HCF.out hrl HB1.out HBW.out rfl)
            go_wp2_with fail
            go_end0
            exact ⟨rfl, ⟨_, _, HF.out.1⟩, HF.out.2⟩
          exact AllReadyH.nil
        exact AllReadyH.nil
      exact AllReadyH.nil
    exact AllReadyH.nil
  refine AllReadyH.cons (by simp only [List.getElem?_toArray, List.getElem?_cons_succ, List.getElem?_cons_zero]; rfl) (fun KQ hK => ?_) ?_
  · skip
    clear g14 g11 e1
    refine step_clone _ (by rfl) _ (by rfl) R rc row (by rfl) HRD.out hrl ?_
    intro v w2 hO hb2
    obtain ⟨Af, cf, rfl, hcf, hfb⟩ := hO.lenV
    have HO := Lib.hid hO
    have HCF := Lib.hid hcf
    clear hO hfb hcf
    have HS2 := Lib.hid (HSD.out.below hb2 (Nat.le_refl _))
    have HB2 := Lib.hid hb2
    clear hb2
    have e2 : w2.cell? ⟨wb, 1, none⟩ = some (.int .i64 tick) := (by simpa using HS2.out.g 1)
    have E3 : Hid (∀ o : Obj, (w2.alloc o).cell? ⟨wb, 1, none⟩ = some (.int .i64 tick)) := fun o => (acell w2 o wb 1 HS2.out.lt).trans e2
    have G24 : Hid (w2.cell? ⟨wb, 4, none⟩ = some (.slice Av K.length cap)) := (by have := HS2.out.g 4; simp at this; exact this)
    refine hK.out _ _ ?_ (fun hHeld => ?_)
    · exact e2
    clear hK KQ
    try simp only [Act.put, List.setIfInBounds_toArray, List.set_cons_zero, List.set_cons_succ]
    clear e2
    refine wpAnyH_take (i := 20) (v := .agg #[.int .i64 i, .int .i64 tick, .int .i64 tick, .int .i64 1, .slice Af row.length cf, .bool true]) (by simp only [List.getElem?_toArray, List.getElem?_cons_succ, List.getElem?_cons_zero]; rfl) (by kernel_rfl) (by kernel_rfl) (by kernel_rfl) (by exact fun _ _ _ h => h) (yields_code (by rfl) (.tmp 50) (.tmp 55) (.tmp 60) (.const (.int .i64 1)) (.tmp 62) (.const (.bool true)) (by rfl) i tick tick 1 Af row.length cf true (by rfl) (by rfl) (by rfl) (by rfl) (by rfl) (by rfl)) (by assumption) ?_
    try simp only [Act.put, List.setIfInBounds_toArray, List.set_cons_zero, List.set_cons_succ]
    refine wpAnyH_ready (rs := [5, 21]) (by kernel_rfl) (by simp) ?_
    refine AllReadyH.cons (by simp only [List.getElem?_toArray, List.getElem?_cons_succ, List.getElem?_cons_zero]; rfl) (fun KQ hK => ?_) ?_
    · skip
      have g24 := G24.out
      go_simp
      refine hK.out _ _ ?_ (fun hHeld => ?_)
      · exact hHeld
      clear hK KQ
      try simp only [Act.put, List.setIfInBounds_toArray, List.set_cons_zero, List.set_cons_succ]
      clear g24
      refine wpAnyH_ready (rs := [21]) (by kernel_rfl) (by simp) ?_
      refine AllReadyH.cons (by simp only [List.getElem?_toArray, List.getElem?_cons_succ, List.getElem?_cons_zero]; rfl) (fun KQ hK => ?_) ?_
      · skip
        refine step_bslice _ (by rfl) _ (by rfl) i tick tick 1 Af row.length cf true (by rfl) ?_
        refine hK.out _ _ ?_ (fun hHeld => ?_)
        · exact E3.out _
        clear hK KQ
        try simp only [Act.put, List.setIfInBounds_toArray, List.set_cons_zero, List.set_cons_succ]
        refine wpAnyH_ready (rs := [22]) (by kernel_rfl) (by simp) ?_
        refine AllReadyH.cons (by simp only [List.getElem?_toArray, List.getElem?_cons_succ, List.getElem?_cons_zero]; rfl) (fun KQ hK => ?_) ?_
        · skip
          refine step_ins _ (by rfl) _ _ _ (by rfl) (.slice Av K.length cap) K w2.heap.size (⟨i, tick, tick, 1, row, true⟩, .slice Af row.length cf) B (by rfl) (by rfl) (by rfl) hix (fun q hq => frame_one (HS2.out.frames q hq)) (HS2.out.below ((Below.refl _ _).alloc (Nat.le_refl _) _) (Nat.le_refl _)).row (by rfl) (heap_alloc_new _ _) (fun e => by have := (own_block_lt HS2.out.row _ e).2; omega) HKK.out (by have := HS2.out.lt; have := HS2.out.bw; simp; omega) ?_
          intro g cap' w6 hR hg6 hat
          have HR6 := Lib.hid hR
          have HG6 := Lib.hid hg6
          have HAT := Lib.hid hat
          have HBX := Lib.hid ((HS2.out.below ((Below.refl _ _).alloc (Nat.le_refl _) _) (Nat.le_refl _)).box hg6)
          have E6 : Hid (w6.cell? ⟨wb, 1, none⟩ = some (.int .i64 tick)) := (World.cell?_of_block (a := ⟨wb, 1, none⟩) (hg6.block wb (by have := HS2.out.lt; simp; omega) (fun e => (HS2.out.vb wb e.symm).1 rfl))).trans (E3.out _)
          clear hR hg6 hat
          refine hK.out _ _ ?_ (fun hHeld => ?_)
          · exact E6.out
          clear hK KQ
          try simp only [Act.put, List.setIfInBounds_toArray, List.set_cons_zero, List.set_cons_succ]
          refine wpAnyH_take (i := 23) (v := ?_) (by simp only [List.getElem?_toArray, List.getElem?_cons_succ, List.getElem?_cons_zero]; rfl) (by kernel_rfl) (by kernel_rfl) (by kernel_rfl) (by exact fun _ _ _ h => h) (Or.inl ⟨by rfl, ?_⟩) (by assumption) ?_
          rotate_left 1
          · (intro w hSw; (try dsimp only at hSw); go_simp <;> with_reducible rfl)
          try simp only [Act.put, List.setIfInBounds_toArray, List.set_cons_zero, List.set_cons_succ]
          refine wpAnyH_take (i := 24) (v := ?_) (by simp only [List.getElem?_toArray, List.getElem?_cons_succ, List.getElem?_cons_zero]; rfl) (by kernel_rfl) (by kernel_rfl) (by kernel_rfl) (by exact fun _ _ _ h => h) (Or.inl ⟨by rfl, ?_⟩) (by assumption) ?_
          rotate_left 1
          · (intro w hSw; (try dsimp only at hSw); go_simp <;> with_reducible rfl)
          try simp only [Act.put, List.setIfInBounds_toArray, List.set_cons_zero, List.set_cons_succ]
          refine wpAnyH_take (i := 25) (v := ?_) (by simp only [List.getElem?_toArray, List.getElem?_cons_succ, List.getElem?_cons_zero]; rfl) (by kernel_rfl) (by kernel_rfl) (by kernel_rfl) (by exact fun _ _ _ h => h) (Or.inl ⟨by rfl, ?_⟩) (by assumption) ?_
          rotate_left 1
          · (intro w hSw; (try dsimp only at hSw); go_simp <;> with_reducible rfl)
          try simp only [Act.put, List.setIfInBounds_toArray, List.set_cons_zero, List.set_cons_succ]
          refine wpAnyH_ready (rs := [26]) (by kernel_rfl) (by simp) ?_
          refine AllReadyH.cons (by simp only [List.getElem?_toArray, List.getElem?_cons_succ, List.getElem?_cons_zero]; rfl) (fun KQ hK => ?_) ?_
          · skip
            have hy := HBX.out.1
            have hz := HBX.out.2
            go_simp
            clear hy hz
            refine hK.out _ _ ?_ (fun hHeld => ?_)
            · exact (World.cell?_setCell_other w6 _ _ _ (by simp)).trans E6.out
            clear hK KQ
            try simp only [Act.put, List.setIfInBounds_toArray, List.set_cons_zero, List.set_cons_succ]
            refine wpAnyH_done (by kernel_rfl) ?_ _
            have HF := Lib.hid (ins_done HSD.out HS2.out HB2.out HG6.out HR6.out HAT.out HO.out HCF.out hrl HB1.out HBW.out rfl)
            go_wp2_with fail
            go_end0
            exact ⟨rfl, ⟨_, _, HF.out.1⟩, HF.out.2⟩
          exact AllReadyH.nil
        exact AllReadyH.nil
      exact AllReadyH.nil
    refine AllReadyH.cons (by simp only [List.getElem?_toArray, List.getElem?_cons_succ, List.getElem?_cons_zero]; rfl) (fun KQ hK => ?_) ?_
    · skip
      refine step_bslice _ (by rfl) _ (by rfl) i tick tick 1 Af row.length cf true (by rfl) ?_
      refine hK.out _ _ ?_ (fun hHeld => ?_)
      · exact E3.out _
      clear hK KQ
      try simp only [Act.put, List.setIfInBounds_toArray, List.set_cons_zero, List.set_cons_succ]
      refine wpAnyH_ready (rs := [5]) (by kernel_rfl) (by simp) ?_
      refine AllReadyH.cons (by simp only [List.getElem?_toArray, List.getElem?_cons_succ, List.getElem?_cons_zero]; rfl) (fun KQ hK => ?_) ?_
      · skip
        have g25 := (acell w2 (.cells #[.int .i64 i, .int .i64 tick, .int .i64 tick, .int .i64 1, .slice Af row.length cf, .bool true] 46) wb 4 HS2.out.lt).trans G24.out
        go_simp
        refine hK.out _ _ ?_ (fun hHeld => ?_)
        · exact E3.out _
        clear hK KQ
        try simp only [Act.put, List.setIfInBounds_toArray, List.set_cons_zero, List.set_cons_succ]
        clear g25
        refine wpAnyH_ready (rs := [22]) (by kernel_rfl) (by simp) ?_
        refine AllReadyH.cons (by simp only [List.getElem?_toArray, List.getElem?_cons_succ, List.getElem?_cons_zero]; rfl) (fun KQ hK => ?_) ?_
        · skip
          refine step_ins _ (by rfl) _ _ _ (by rfl) (.slice Av K.length cap) K w2.heap.size (⟨i, tick, tick, 1, row, true⟩, .slice Af row.length cf) B (by rfl) (by rfl) (by rfl) hix (fun q hq => frame_one (HS2.out.frames q hq)) (HS2.out.below ((Below.refl _ _).alloc (Nat.le_refl _) _) (Nat.le_refl _)).row (by rfl) (heap_alloc_new _ _) (fun e => by have := (own_block_lt HS2.out.row _ e).2; omega) HKK.out (by have := HS2.out.lt; have := HS2.out.bw; simp; omega) ?_
          intro g cap' w6 hR hg6 hat
          have HR6 := Lib.hid hR
          have HG6 := Lib.hid hg6
          have HAT := Lib.hid hat
          have HBX := Lib.hid ((HS2.out.below ((Below.refl _ _).alloc (Nat.le_refl _) _) (Nat.le_refl _)).box hg6)
          have E6 : Hid (w6.cell? ⟨wb, 1, none⟩ = some (.int .i64 tick)) := (World.cell?_of_block (a := ⟨wb, 1, none⟩) (hg6.block wb (by have := HS2.out.lt; simp; omega) (fun e => (HS2.out.vb wb e.symm).1 rfl))).trans (E3.out _)
          clear hR hg6 hat
          refine hK.out _ _ ?_ (fun hHeld => ?_)
          · exact E6.out
          clear hK KQ
          try simp only [Act.put, List.setIfInBounds_toArray, List.set_cons_zero, List.set_cons_succ]
          refine wpAnyH_take (i := 23) (v := ?_) (by simp only [List.getElem?_toArray, List.getElem?_cons_succ, List.getElem?_cons_zero]; rfl) (by kernel_rfl) (by kernel_rfl) (by kernel_rfl) (by exact fun _ _ _ h => h) (Or.inl ⟨by rfl, ?_⟩) (by assumption) ?_
          rotate_left 1
          · (intro w hSw; (try dsimp only at hSw); go_simp <;> with_reducible rfl)
          try simp only [Act.put, List.setIfInBounds_toArray, List.set_cons_zero, List.set_cons_succ]
          refine wpAnyH_take (i := 24) (v := ?_) (by simp only [List.getElem?_toArray, List.getElem?_cons_succ, List.getElem?_cons_zero]; rfl) (by kernel_rfl) (by kernel_rfl) (by kernel_rfl) (by exact fun _ _ _ h => h) (Or.inl ⟨by rfl, ?_⟩) (by assumption) ?_
          rotate_left 1
          · (intro w hSw; (try dsimp only at hSw); go_simp <;> with_reducible rfl)
          try simp only [Act.put, List.setIfInBounds_toArray, List.set_cons_zero, List.set_cons_succ]
          refine wpAnyH_take (i := 25) (v := ?_) (by simp only [List.getElem?_toArray, List.getElem?_cons_succ, List.getElem?_cons_zero]; rfl) (by kernel_rfl) (by kernel_rfl) (by kernel_rfl) (by exact fun _ _ _ h => h) (Or.inl ⟨by rfl, ?_⟩) (by assumption) ?_
          rotate_left 1
          · (intro w hSw; (try dsimp only at hSw); go_simp <;> with_reducible rfl)
          try simp only [Act.put, List.setIfInBounds_toArray, List.set_cons_zero, List.set_cons_succ]
          refine wpAnyH_ready (rs := [26]) (by kernel_rfl) (by simp) ?_
          refine AllReadyH.cons (by simp only [List.getElem?_toArray, List.getElem?_cons_succ, List.getElem?_cons_zero]; rfl) (fun KQ hK => ?_) ?_
          · skip
            have hy := HBX.out.1
            have hz := HBX.out.2
            go_simp
            clear hy hz
            refine hK.out _ _ ?_ (fun hHeld => ?_)
            · exact (World.cell?_setCell_other w6 _ _ _ (by simp)).trans E6.out
            clear hK KQ
            try simp only [Act.put, List.setIfInBounds_toArray, List.set_cons_zero, List.set_cons_succ]
            refine wpAnyH_done (by kernel_rfl) ?_ _
            have HF := Lib.hid (ins_done HSD.out HS2.out HB2.out HG6.out HR6.out HAT.out HO.out HCF.out hrl HB1.out HBW.out rfl)
            go_wp2_with fail
            go_end0
            exact ⟨rfl, ⟨_, _, HF.out.1⟩, HF.out.2⟩
          exact AllReadyH.nil
        exact AllReadyH.nil
      exact AllReadyH.nil
    exact AllReadyH.nil
  exact AllReadyH.nil
end Go.Proofs.YtonpemikodajdaaDoor
