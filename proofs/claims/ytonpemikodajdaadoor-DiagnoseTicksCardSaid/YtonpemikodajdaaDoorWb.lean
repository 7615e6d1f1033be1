/- The row of codes; begin; the watcher in memory; code where nothing changes. -/
import Derived.Test.YtonpemikodajdaaDoorWa
import Derived.Test.YtonpemikodajdaaDoorGd
import Derived.Deep.RegionHeld3
import Derived.Test.YtonpemikodajdaaDoorBa
/- Codes in memory of the call's own; append of one; slices.Insert at the end. -/
namespace Go.Proofs.YtonpemikodajdaaDoor
open Go.RowKit

/-- a code and its frame's value -/
def cells6 (p : MCode × Value) : List Value := [.int .i64 p.1.mon, .int .i64 p.1.first, .int .i64 p.1.last, .int .i64 p.1.count, p.2, .bool p.1.active]
def RowC (w : World) (base : Nat) (V : Value) (K : List (MCode × Value)) : Prop := w.ownsRow base 46 6 V K.length (K.flatMap cells6)
theorem cells6_len (K : List (MCode × Value)) : (K.flatMap cells6).length = K.length * 6 := by
  induction K with
  | nil => rfl
  | cons p r ih => rw [List.flatMap_cons, List.length_append, ih, List.length_cons]; show 6 + _ = _; omega
theorem cells6_at {K : List (MCode × Value)} {i j : Nat} {p : MCode × Value} (hp : K[i]? = some p) (hj : j < 6) : (K.flatMap cells6)[i * 6 + j]? = (cells6 p)[j]? := by
  induction K generalizing i with
  | nil => cases hp
  | cons q r ih =>
    rw [List.flatMap_cons]
    cases i with
    | zero =>
      simp only [List.getElem?_cons_zero, Option.some.injEq] at hp
      subst hp
      rw [List.getElem?_append_left (by show _ < 6; omega)]
      congr 1; omega
    | succ i =>
      rw [List.getElem?_append_right (by show 6 ≤ _; omega)]
      rw [show (i + 1) * 6 + j - (cells6 q).length = i * 6 + j by show _ - 6 = _; omega]
      exact ih (by simpa using hp)
theorem info_code : (Tryd.prog.info? 46).map (fun i => (i.zero, i.size, i.bytes)) = some (some (.agg #[.int .i64 0, .int .i64 0, .int .i64 0, .int .i64 0, .slice none 0 0, .bool false]), 6, 64) := by kernel_rfl
theorem under_codes : Tryd.prog.underlying 25 = some (.slice 46) := by kernel_rfl
/-- a frame in memory that U allows -/
def FrameU (w : World) (U : Nat → Prop) (p : MCode × Value) : Prop := ∃ A cap, p.2 = .slice A p.1.frame.length cap ∧ p.1.frame.length ≤ cap ∧ p.1.frame.length ≤ maxLen ∧ IntsU w U A p.1.frame
theorem FrameU.keep {w w' : World} {U U' : Nat → Prop} {p : MCode × Value} (h : FrameU w U p) (hs : w.heap.size ≤ w'.heap.size) (hk : ∀ b, b < w.heap.size → U b → w'.heap[b]? = w.heap[b]?) (hU : ∀ b, b < w.heap.size → U b → U' b) : FrameU w' U' p := by
  obtain ⟨A, cap, h1, h2, h3, h4⟩ := h
  exact ⟨A, cap, h1, h2, h3, h4.keep hs hk hU⟩
section
variable {ops : Array Oper} {rest : List Oper} {o : Oper} {a : Act} {Q : Exit → Act → World → Prop}
set_option maxRecDepth 100000 in
theorem app_code (w : World) (hg : o.guard = none) (s x : Operand) (ho : o.op = .call { callee := .builtin .append, args := #[s, x], argTypes := #[25, 25] }) (base : Nat) (V : Value) (K : List (MCode × Value))
    (hs : a.eval s = V) (hown : RowC w base V K) (nb : Nat) (hx : a.eval x = .slice (some ⟨nb, 0, none⟩) 1 1) (p : MCode × Value) (hp : p.2.oneCell' = true) (hc : ∀ j u, (cells6 p)[j]? = some u → w.cell? ⟨nb, j, none⟩ = some u) (hlen : K.length ≤ 1000000) (hbase : base ≤ w.heap.size)
    (hK : ∀ g cap w', RowC w' base (.slice (some ⟨g, 0, none⟩) (K.length + 1) cap) (K ++ [p]) → w.grownBy w' V.ownBlock → (V.ownBlock = some g ∨ g = w.heap.size) → wpList Tryd.prog ops Q rest (a.put o.dst (.slice (some ⟨g, 0, none⟩) (K.length + 1) cap)) w') : wpList Tryd.prog ops Q (o :: rest) a w := by
  obtain ⟨i0, hi, hz0, hz1, hz2⟩ := info_parts info_code
  refine wpList_append_lies w hg s x 25 ho base 46 i0 _ 6 64 under_codes hi hz0 hz1 hz2 rfl (by decide) V K.length _ hs hown ⟨nb, 0, none⟩ 1 1 (cells6 p) hx rfl ?_ ?_ (by omega) (by unfold maxLen; omega) (by omega) hbase w.heap.size rfl (fun g cap w' h1 h2 h3 _ => hK g cap w' ?_ h2 h3)
  · intro j u hj
    rw [add_none0, Nat.zero_add]
    exact hc j u hj
  · intro u hu
    unfold cells6 at hu
    simp only [List.mem_cons, List.not_mem_nil, or_false] at hu
    rcases hu with rfl | rfl | rfl | rfl | rfl | rfl
    all_goals first | rfl | exact hp
  · unfold RowC
    rw [List.flatMap_append, List.length_append]
    simpa using h1
end
theorem RowC.lenV {w : World} {base : Nat} {V : Value} {K : List (MCode × Value)} (h : RowC w base V K) : ∃ A cap, V = .slice A K.length cap ∧ K.length ≤ cap := by
  obtain ⟨_, h1⟩ := h
  rcases h1 with ⟨hv, h0⟩ | ⟨g, cap, cur, hv, hb, hh, hn, r⟩
  · exact ⟨none, 0, by rw [hv, h0], by omega⟩
  · exact ⟨_, cap, hv, hn⟩
set_option maxHeartbeats 1000000 in
theorem insert_end (V : Value) (K : List (MCode × Value)) (nb : Nat) (p : MCode × Value) (base : Nat) (w : World) (h : RowC w base V K) (hp : p.2.oneCell' = true) (hc : ∀ j u, (cells6 p)[j]? = some u → w.cell? ⟨nb, j, none⟩ = some u) (hlen : K.length ≤ 1000000) (hbase : base ≤ w.heap.size) :
    Calls Tryd.prog 114 #[V, .int .i64 K.length, .slice (some ⟨nb, 0, none⟩) 1 1] w fun e w' => (∃ g cap, e = .returned (.slice (some ⟨g, 0, none⟩) (K.length + 1) cap) ∧ RowC w' base (.slice (some ⟨g, 0, none⟩) (K.length + 1) cap) (K ++ [p]) ∧ (V.ownBlock = some g ∨ g = w.heap.size)) ∧ w.grownBy w' V.ownBlock := by
  obtain ⟨A, cap, rfl, hcap⟩ := h.lenV
  have hC := Lib.hid hc
  have H := Lib.hid h
  clear hc h
  go_enter Tryd.func114, Tryd.ntmps114
  go_wp2_with (at_builtin; refine app_code _ rfl _ _ rfl base (.slice A K.length cap) K rfl H.out nb rfl p hp hC.out hlen hbase ?_; intro g' cap' w' hR hg hat)
  all_goals go_ret
  · have e : cap = K.length := by omega
    rw [e] at hg hat
    exact ⟨⟨g', cap', rfl, hR, hat⟩, hg⟩
  · exact ⟨⟨g', cap', rfl, hR, hat⟩, hg⟩
end Go.Proofs.YtonpemikodajdaaDoor

/- Walks: begin. -/
namespace Go.Proofs.YtonpemikodajdaaDoor
open Go.RowKit

theorem run_ints (n : Nat) (hn : n ≤ 1000000) (w : World) : (Instr.makeSlice 24 (.int .i64 (n : Int)) (.int .i64 (n : Int))).run Tryd.prog w = .ok (.slice (some ⟨w.heap.size, 0, none⟩) n n) (w.alloc (.cells (madeCells #[.int .i64 0] n) 3)) := by
  obtain ⟨i0, hi, hz0, hz1, hz2⟩ := info_parts info_int
  have h := run_make (P := Tryd.prog) (w := w) 24 3 i0 (.int .i64 0) under_ints hi hz0 .i64 .i64 (n : Int) (n : Int) (by omega) (by omega) (by rw [hz2]; omega) (by omega)
  rw [h, hz1]
  simp [Value.cells]
theorem own_made (w : World) (n : Nat) : OwnF (w.alloc (.cells (madeCells #[.int .i64 0] n) 3)) w.heap.size 3 n (fun _ => .int .i64 0) := by
  refine ⟨_, heap_alloc_new w _, by simp [madeCells], fun j hj => ?_⟩
  simp [madeCells, hj, Nat.mod_one]
structure BeginP (w w' : World) (n ga gb : Nat) : Prop where
  ne : ga ≠ gb
  la : w.heap.size ≤ ga
  lb : w.heap.size ≤ gb
  a : OwnF w' ga 3 n (fun _ => .int .i64 0)
  b : OwnF w' gb 3 n (fun _ => .int .i64 0)
  bel : Below w.heap.size w w'
theorem mem_under : ∃ f, Tryd.prog.underlying 27 = some (.struct f) := by
  have h : (Tryd.prog.underlying 27).map (fun d => match d with | .struct _ => true | _ => false) = some true := by kernel_rfl
  rcases hu : Tryd.prog.underlying 27 with _ | d
  · rw [hu] at h; cases h
  · rw [hu] at h
    cases d
    case struct f => exact ⟨f, rfl⟩
    all_goals (exfalso; simp at h)
theorem mem_info : (Tryd.prog.info? 27).map (·.size) = some 4 := by kernel_rfl
theorem two_made (w : World) (X : Obj) (n : Nat) : ∀ W, W = (((w.alloc X).alloc (.cells (madeCells #[.int .i64 0] n) 3)).alloc (.cells (madeCells #[.int .i64 0] n) 3)).drew →
    W.heap[w.heap.size]? = some X ∧ OwnF W (w.heap.size + 1) 3 n (fun _ => .int .i64 0) ∧ OwnF W (w.heap.size + 1 + 1) 3 n (fun _ => .int .i64 0) ∧ Below w.heap.size w W := by
  rintro _ rfl
  have e1 : (w.alloc X).heap.size = w.heap.size + 1 := by simp
  have e2 : ((w.alloc X).alloc (.cells (madeCells #[.int .i64 0] n) 3)).heap.size = w.heap.size + 1 + 1 := by simp
  have h1 := own_made (w.alloc X) n
  have h2 := own_made ((w.alloc X).alloc (.cells (madeCells #[.int .i64 0] n) 3)) n
  rw [e1] at h1
  rw [e2] at h2
  refine ⟨?_, (h1.alloc _).drewN 1, h2.drewN 1, ((((Below.refl _ _).alloc (Nat.le_refl _) _).alloc (by simp) _).alloc (by simp; omega) _).drew⟩
  show (((w.alloc X).alloc (.cells (madeCells #[.int .i64 0] n) 3)).alloc (.cells (madeCells #[.int .i64 0] n) 3)).heap[w.heap.size]? = _
  exact (Below.heap_alloc _ _ _ (by rw [e2]; omega)).trans ((Below.heap_alloc _ _ _ (by rw [e1]; omega)).trans (heap_alloc_new _ _))
set_option maxRecDepth 100000 in
set_option maxHeartbeats 1000000 in
theorem begin_any (A : Option Addr) (cap n : Nat) (w : World) (hn : n ≤ 1000000) :
    Calls Tryd.prog 52 #[.slice A n cap] w fun e w' => ∃ ga gb, e = .returned (.agg #[.int .i64 0, .slice (some ⟨ga, 0, none⟩) n n, .slice (some ⟨gb, 0, none⟩) n n, .slice none 0 0]) ∧ BeginP w w' n ga gb := by
  have hmk := run_ints n hn
  go_enter Tryd.func52, Tryd.ntmps52
  go_wp2_with fail
  go_region
  · go_wp2_with fail
    have h2 := two_made w (Obj.cells #[Value.int IntKind.i64 0, Value.slice (some { block := w.heap.size + 1, off := 0 }) n n, Value.slice (some { block := w.heap.size + 1 + 1, off := 0 }) n n, Value.slice none 0 0] 27) n _ rfl
    obtain ⟨d, hu⟩ := mem_under
    (try simp only [Exit.inBlock, Exit.then])
    refine bodyPost_ret (results_cell_row rfl _ _ w.heap.size 27 _ (0, 0) (.struct d) rfl h2.1 hu rfl mem_info) rfl ⟨w.heap.size + 1, w.heap.size + 1 + 1, rfl, ⟨by omega, by omega, by omega, h2.2.1, h2.2.2.1, h2.2.2.2⟩⟩
  · go_wp2_with fail
    have h2 := two_made w (Obj.cells #[Value.int IntKind.i64 0, Value.slice (some { block := w.heap.size + 1 + 1, off := 0 }) n n, Value.slice (some { block := w.heap.size + 1, off := 0 }) n n, Value.slice none 0 0] 27) n _ rfl
    obtain ⟨d, hu⟩ := mem_under
    (try simp only [Exit.inBlock, Exit.then])
    refine bodyPost_ret (results_cell_row rfl _ _ w.heap.size 27 _ (0, 0) (.struct d) rfl h2.1 hu rfl mem_info) rfl ⟨w.heap.size + 1 + 1, w.heap.size + 1, rfl, ⟨by omega, by omega, by omega, h2.2.2.1, h2.2.1, h2.2.2.2⟩⟩
end Go.Proofs.YtonpemikodajdaaDoor

/- The watcher in memory; steps of a region: slices.Clone, slices.Insert at the end. -/
namespace Go.Proofs.YtonpemikodajdaaDoor
open Go.RowKit

def svA : Value → Option Addr × Nat | .slice A _ c => (A, c) | _ => (none, 0)
theorem getD_fst (K : List (MCode × Value)) (i : Nat) (hi : i < K.length) : (K.map Prod.fst).getD i dCode = K[i].1 := by
  rw [List.getD_eq_getElem?_getD, List.getElem?_map, List.getElem?_eq_getElem hi]; rfl
theorem RowC.codes {w : World} {base n cap : Nat} {A : Option Addr} {K : List (MCode × Value)} {U : Nat → Prop} (h : RowC w base (.slice A n cap) K) (hf : ∀ p ∈ K, FrameU w U p) (hl : K.length ≤ 1000000) : CodesA w w.heap.size A (K.map Prod.fst) := by
  have hlt := own_block_lt h
  refine ⟨by simpa using hl, fun i => svA (K.getD i (dCode, undef)).2, fun hn => ?_, fun i hi => ?_⟩
  · rw [List.length_map] at hn
    obtain ⟨e1, e2⟩ := id h
    rcases e2 with ⟨e2, h0⟩ | ⟨g, cap', cur, hg, hb, hh, _⟩
    · omega
    · injection hg with hg hn1 hn2
      subst hg
      refine ⟨g, 0, rfl, (hlt g rfl).2, fun i j hi hj => ?_⟩
      rw [List.length_map] at hi
      have h' := h
      rw [hn1] at h'
      have hc := World.ownsRow.cellAt (show w.ownsRow base 46 6 (.slice (some ⟨g, 0, none⟩) K.length cap) K.length (K.flatMap cells6) from h') (i * 6 + j) (by omega)
      rw [cells6_at (List.getElem?_eq_getElem hi) hj] at hc
      rw [Nat.zero_add, hc]
      obtain ⟨A', cap', h1, h2, h3⟩ := hf K[i] (List.getElem_mem _)
      unfold codeCell
      rw [getD_fst K i hi]
      have hsv : (K.getD i (dCode, undef)).2 = .slice A' K[i].1.frame.length cap' := by rw [List.getD_eq_getElem?_getD, List.getElem?_eq_getElem hi]; exact h1
      simp only [hsv, svA]
      unfold cells6
      rw [h1]
      rcases (show j = 0 ∨ j = 1 ∨ j = 2 ∨ j = 3 ∨ j = 4 ∨ j = 5 by omega) with rfl | rfl | rfl | rfl | rfl | rfl <;> rfl
  · rw [List.length_map] at hi
    obtain ⟨A', cap', h1, h2, h3, h4⟩ := hf K[i] (List.getElem_mem _)
    have hsv : (K.getD i (dCode, undef)).2 = .slice A' K[i].1.frame.length cap' := by rw [List.getD_eq_getElem?_getD, List.getElem?_eq_getElem hi]; exact h1
    rw [getD_fst K i hi]
    simp only [hsv, svA]
    exact ⟨h2, h4.ints h3⟩
/-- the capacities of the monitors, of the counters, of the calm -/
abbrev Caps := Nat × Nat × Nat
/-- the watcher's blocks -/
structure WS (w : World) (B wb : Nat) (A : Option Addr) (lc : Caps) (l : List MMon) (tick : Int) (cb : Nat) (ns : List Int) (kb : Nat) (cs : List Int) (V : Value) (K : List (MCode × Value)) : Prop where
  hw : w.heap[wb]? = some (.cells #[.slice A l.length lc.1, .int .i64 tick, .slice (some ⟨cb, 0, none⟩) l.length lc.2.1, .slice (some ⟨kb, 0, none⟩) l.length lc.2.2, V] 88 (0, 0))
  mons : MonsA w B A l
  bw : B ≤ wb
  bc : B ≤ cb
  bk : B ≤ kb
  n1 : wb ≠ cb
  n2 : wb ≠ kb
  n3 : cb ≠ kb
  cnt : OwnF w cb 3 l.length (fun j => .int .i64 (ns.getD j 0))
  clm : OwnF w kb 3 l.length (fun j => .int .i64 (cs.getD j 0))
  row : RowC w B V K
  vb : ∀ g, V.ownBlock = some g → g ≠ wb ∧ g ≠ cb ∧ g ≠ kb
  frames : ∀ p ∈ K, FrameU w (fun b => b ≠ wb ∧ b ≠ cb ∧ b ≠ kb ∧ some b ≠ V.ownBlock ∧ B ≤ b) p
section
variable {w w' : World} {B wb : Nat} {A : Option Addr} {lc : Caps} {l : List MMon} {tick : Int} {cb : Nat} {ns : List Int} {kb : Nat} {cs : List Int} {V : Value} {K : List (MCode × Value)}
theorem WS.g (h : WS w B wb A lc l tick cb ns kb cs V K) (k : Nat) : w.cell? ⟨wb, k, none⟩ = (#[.slice A l.length lc.1, .int .i64 tick, .slice (some ⟨cb, 0, none⟩) l.length lc.2.1, .slice (some ⟨kb, 0, none⟩) l.length lc.2.2, V] : Array Value)[k]? := cell_of_row w wb k _ 88 (0, 0) h.hw
theorem WS.lt (h : WS w B wb A lc l tick cb ns kb cs V K) : wb < w.heap.size := by
  rcases Nat.lt_or_ge wb w.heap.size with hlt | hge
  · exact hlt
  · have := h.hw
    rw [Array.getElem?_eq_none hge] at this; cases this
theorem WS.below (h : WS w B wb A lc l tick cb ns kb cs V K) {B' : Nat} (hb : Below B' w w') (hB : w.heap.size ≤ B') : WS w' B wb A lc l tick cb ns kb cs V K := by
  have hwlt := h.lt
  have hvl := own_block_lt h.row
  have hBw : B ≤ B' := by have := h.bw; omega
  exact ⟨(hb.block wb (by omega)).trans h.hw, h.mons.below (hb.mono hBw) (Nat.le_refl _), h.bw, h.bc, h.bk, h.n1, h.n2, h.n3, h.cnt.below hb (by have := h.cnt.lt; omega), h.clm.below hb (by have := h.clm.lt; omega), own_below h.row hb (fun k hk => by have := (hvl k hk).2; omega), h.vb, fun p hp => (h.frames p hp).keep hb.size (fun b hb' _ => hb.block b (by omega)) (fun _ _ hu => hu)⟩
end
theorem WS.box {w w' : World} {B wb : Nat} {A : Option Addr} {lc : Caps} {l : List MMon} {tick : Int} {cb : Nat} {ns : List Int} {kb : Nat} {cs : List Int} {V : Value} {K : List (MCode × Value)}
    (h : WS w B wb A lc l tick cb ns kb cs V K) (hg : w.grownBy w' V.ownBlock) : w'.cell? ⟨wb, 4, none⟩ = some V ∧ w'.frozen? ⟨wb, 4, none⟩ = false := by
  have hne : some wb ≠ V.ownBlock := fun e => (h.vb wb e.symm).1 rfl
  have hh := (hg.block wb h.lt hne).trans h.hw
  exact ⟨cell_of_row w' wb 4 _ 88 (0, 0) hh, by simp [World.frozen?, hh]⟩
theorem WS.pushed {w w' : World} {B wb : Nat} {A : Option Addr} {lc : Caps} {l : List MMon} {tick : Int} {cb : Nat} {ns : List Int} {kb : Nat} {cs : List Int} {V : Value} {K : List (MCode × Value)}
    (h : WS w B wb A lc l tick cb ns kb cs V K) (hg : w.grownBy w' V.ownBlock) {g n cap : Nat} {p : MCode × Value} (hR : RowC w' B (.slice (some ⟨g, 0, none⟩) n cap) (K ++ [p])) (hat : V.ownBlock = some g ∨ g = w.heap.size) (hp : FrameU w (fun b => b ≠ wb ∧ b ≠ cb ∧ b ≠ kb ∧ some b ≠ V.ownBlock ∧ B ≤ b) p) :
    WS (w'.setCell ⟨wb, 4, none⟩ (.slice (some ⟨g, 0, none⟩) n cap)) B wb A lc l tick cb ns kb cs (.slice (some ⟨g, 0, none⟩) n cap) (K ++ [p]) := by
  have hlt := h.lt
  have hcl := h.cnt.lt
  have hkl := h.clm.lt
  have hBw := h.bw
  have hvl := own_block_lt h.row
  have hsz := hg.size
  have hg3 : g ≠ wb ∧ g ≠ cb ∧ g ≠ kb := by
    rcases hat with e | e
    · exact h.vb g e
    · omega
  have ne : ∀ b, b = wb ∨ b = cb ∨ b = kb → some b ≠ V.ownBlock := fun b hb e => by
    have := h.vb b e.symm
    rcases hb with rfl | rfl | rfl
    · exact this.1 rfl
    · exact this.2.1 rfl
    · exact this.2.2 rfl
  have hne := ne wb (.inl rfl)
  have hh := (hg.block wb hlt hne).trans h.hw
  have hbel : Below B w (w'.setCell ⟨wb, 4, none⟩ (.slice (some ⟨g, 0, none⟩) n cap)) := ((Below.refl _ _).grown hg (by omega) (fun k hk => (hvl k hk).1)).setCell hBw _
  refine ⟨?_, h.mons.below hbel (Nat.le_refl _), h.bw, h.bc, h.bk, h.n1, h.n2, h.n3, (h.cnt.grown hg (ne cb (.inr (.inl rfl)))).far (fun e => h.n1 e.symm) _, (h.clm.grown hg (ne kb (.inr (.inr rfl)))).far (fun e => h.n2 e.symm) _, ?_, fun k hk => ?_, fun q hq => ?_⟩
  · rw [heap_setCell_same w' wb 4 _ 88 _ hh]; rfl
  · obtain ⟨e1, e2⟩ := hR
    refine ⟨e1, ?_⟩
    rcases e2 with ⟨e2, _⟩ | ⟨g', cap', cur, hv, hb, hh2, r⟩
    · cases e2
    · refine .inr ⟨g', cap', cur, hv, hb, ?_, r⟩
      injection hv with hv _ _
      injection hv with hv
      injection hv with hv
      subst hv
      exact (Below.heap_setCell w' ⟨wb, 4, none⟩ _ g hg3.1).trans hh2
  · injection hk with hk
    subst hk
    exact hg3
  · have hkeep : ∀ b, b < w.heap.size → (b ≠ wb ∧ b ≠ cb ∧ b ≠ kb ∧ some b ≠ V.ownBlock ∧ B ≤ b) → (w'.setCell ⟨wb, 4, none⟩ (.slice (some ⟨g, 0, none⟩) n cap)).heap[b]? = w.heap[b]? := fun b hb hu => (Below.heap_setCell w' ⟨wb, 4, none⟩ _ b hu.1).trans (hg.block b hb hu.2.2.2.1)
    have hU : ∀ b, b < w.heap.size → (b ≠ wb ∧ b ≠ cb ∧ b ≠ kb ∧ some b ≠ V.ownBlock ∧ B ≤ b) → (b ≠ wb ∧ b ≠ cb ∧ b ≠ kb ∧ some b ≠ Value.ownBlock (.slice (some ⟨g, 0, none⟩) n cap) ∧ B ≤ b) := fun b hb hu => ⟨hu.1, hu.2.1, hu.2.2.1, fun e => (by
      have e : some b = some g := e
      injection e with e
      subst e
      rcases hat with hat | hat
      · exact hu.2.2.2.1 hat.symm
      · omega), hu.2.2.2.2⟩
    rcases List.mem_append.1 hq with hq | hq
    · exact (h.frames q hq).keep (by simpa using hsz) hkeep hU
    · rw [List.mem_singleton] at hq
      subst hq
      exact hp.keep (by simpa using hsz) hkeep hU
theorem step_clone {ops : Array Oper} {o : Oper} {a : Act} {K : Act → World → Prop} {Q : Exit → Act → World → Prop} {E : Prop} (w : World) (hg : o.guard = none) (x : Operand) (ho : o.op = .call { callee := .value (.func 79), args := #[x], argTypes := #[24] }) (O : Option Addr) (cap : Nat) (os : List Int) (hx : a.eval x = .slice O os.length cap) (h : IntsA w w.heap.size O os) (hl : os.length ≤ 1000)
    (hK : ∀ v w2, OutI w2 w.heap.size v os → Below w.heap.size w w2 → K (a.put o.dst v) w2) :
    if Region.wanted o (yielded ops a.tmps) = true then Oper.wp Tryd.prog o a w K Q else E := by
  rw [if_pos (by simp [Region.wanted, hg])]
  have hC := clone_ints O cap os w h hl
  have hf : a.eval (.func 79) = .func (.func 79) #[] #[] := rfl
  unfold Oper.wp execOp
  simp only [ho, resolve, invoke, Sem.run_bind, List.map_toArray, List.map_cons, List.map_nil, hx, hf]
  simp [go_sem]
  refine hC.mono ?_
  rintro e w2 ⟨v, rfl, hO, hb⟩
  exact hK v w2 hO hb
theorem step_insert {ops : Array Oper} {o : Oper} {a : Act} {K : Act → World → Prop} {Q : Exit → Act → World → Prop} {E : Prop} (w : World) (hg : o.guard = none) (x y z : Operand) (ho : o.op = .call { callee := .value (.func 114), args := #[x, y, z], argTypes := #[25, 3, 25] }) (V : Value) (KK : List (MCode × Value)) (nb : Nat) (p : MCode × Value) (base : Nat)
    (hx : a.eval x = V) (hy : a.eval y = .int .i64 (KK.length : Int)) (hz : a.eval z = .slice (some ⟨nb, 0, none⟩) 1 1) (h : RowC w base V KK) (hp : p.2.oneCell' = true) (hc : ∀ j u, (cells6 p)[j]? = some u → w.cell? ⟨nb, j, none⟩ = some u) (hlen : KK.length ≤ 1000000) (hbase : base ≤ w.heap.size)
    (hK : ∀ g cap w2, RowC w2 base (.slice (some ⟨g, 0, none⟩) (KK.length + 1) cap) (KK ++ [p]) → w.grownBy w2 V.ownBlock → (V.ownBlock = some g ∨ g = w.heap.size) → K (a.put o.dst (.slice (some ⟨g, 0, none⟩) (KK.length + 1) cap)) w2) :
    if Region.wanted o (yielded ops a.tmps) = true then Oper.wp Tryd.prog o a w K Q else E := by
  rw [if_pos (by simp [Region.wanted, hg])]
  have hC := insert_end V KK nb p base w h hp hc hlen hbase
  have hf : a.eval (.func 114) = .func (.func 114) #[] #[] := rfl
  unfold Oper.wp execOp
  simp only [ho, resolve, invoke, Sem.run_bind, List.map_toArray, List.map_cons, List.map_nil, hx, hy, hz, hf]
  simp [go_sem]
  refine hC.mono ?_
  rintro e w2 ⟨⟨g, cap, rfl, hR, hat⟩, hg⟩
  exact hK g cap w2 hR hg hat
end Go.Proofs.YtonpemikodajdaaDoor

/- Walks: code, where it changes nothing; where a code is new and the last. -/
namespace Go.Proofs.YtonpemikodajdaaDoor
open Go.RowKit

theorem FindP.uniq {l : List MCode} {t : Int} {i j : Nat} {b c : Bool} (h : FindP l t i b) (h' : FindP l t j c) : i = j ∧ b = c := by
  obtain ⟨h1, h2, h3, h4⟩ := h
  obtain ⟨k1, k2, k3, k4⟩ := h'
  have e : i = j := by
    rcases Nat.lt_trichotomy i j with hh | hh | hh
    · have := k2 i hh
      have := h3 i (Nat.le_refl _) (by omega)
      omega
    · exact hh
    · have := h2 j hh
      have := k3 j (Nat.le_refl _) (by omega)
      omega
  subst e
  refine ⟨rfl, ?_⟩
  rcases b with _ | _ <;> rcases c with _ | _
  · rfl
  · have := h4.2 (k4.1 rfl); cases this
  · have := k4.2 (h4.1 rfl); cases this
  · rfl
theorem find_at (A : Option Addr) (cap : Nat) (l : List MCode) (t : Int) (w : World) (h : CodesA w w.heap.size A l) (hs : AscC l) (ht : 0 ≤ t ∧ t ≤ 1000000) {ix : Nat} {has : Bool} (hf : FindP l t ix has) :
    Calls Tryd.prog 106 #[.slice A l.length cap, .int .i64 t] w fun e w' => e = .returned (.tuple #[.int .i64 ix, .bool has]) ∧ Below w.heap.size w w' :=
  (find_any A cap l t w h hs ht).mono fun e w' ⟨⟨i, b, he, hi⟩, hb⟩ => by
    obtain ⟨rfl, rfl⟩ := hi.uniq hf
    exact ⟨he, hb⟩
theorem MonsA.get {w : World} {B b off : Nat} {l : List MMon} (h : MonsA w B (some ⟨b, off, none⟩) l) {k : Nat} {m : MMon} (hm : l[k]? = some m) (j : Nat) (hj : j < 7) :
    w.cell? ⟨b, off + k * 7 + j, none⟩ = (#[.int .i64 m.sig, .int .i64 m.low, .int .i64 m.high, .int .i64 m.up, .int .i64 m.down, .int .i64 m.limit, .int .i64 m.heal] : Array Value)[j]? := by
  have hk : k < l.length := by
    rcases Nat.lt_or_ge k l.length with hh | hh
    · exact hh
    · rw [List.getElem?_eq_none hh] at hm; cases hm
  obtain ⟨f, b', off', ht, hA, _, t0, t1, t2, t3, t4, t5, t6⟩ := h.at_ hk
  rw [hm] at ht
  injection ht with ht
  subst ht
  injection hA with hA
  injection hA with e1 e2
  subst e1
  subst e2
  rcases (show j = 0 ∨ j = 1 ∨ j = 2 ∨ j = 3 ∨ j = 4 ∨ j = 5 ∨ j = 6 by omega) with rfl | rfl | rfl | rfl | rfl | rfl | rfl
  · exact t0
  · exact t1
  · exact t2
  · exact t3
  · exact t4
  · exact t5
  · exact t6
set_option maxRecDepth 100000 in
set_option maxHeartbeats 2000000 in
theorem code_none {w : World} {B wb : Nat} {A : Option Addr} {lc : Caps} {l : List MMon} {tick : Int} {cb : Nat} {ns : List Int} {kb : Nat} {cs : List Int} {V : Value} {K : List (MCode × Value)}
    (hS : WS w B wb A lc l tick cb ns kb cs V K) (hl : l.length ≤ 20) (hK : K.length ≤ 1000000) (hasc : AscC (K.map Prod.fst)) (i : Nat) (hi : i < l.length) (m : MMon) (hm : l[i]? = some m) (R : Option Addr) (rc : Nat) (row : List Int)
    (ix : Nat) (has : Bool) (hf : FindP (K.map Prod.fst) i ix has) (n : Int) (hn : ns.getD i 0 = n) (h1 : n ≠ m.limit) (h2 : n ≠ 0 ∨ has = false) :
    Calls Tryd.prog 90 #[.pointer (some ⟨wb, 0, none⟩), .int .i64 i, .slice R row.length rc] w fun e w' => e = .returned (.tuple #[]) ∧ WS w' B wb A lc l tick cb ns kb cs V K ∧ Below w.heap.size w w' := by
  obtain ⟨Av, cap, rfl, hcap⟩ := hS.row.lenV
  have hC := find_at Av cap (K.map Prod.fst) i w (RowC.codes hS.row hS.frames hK) hasc (by omega) hf
  rw [List.length_map] at hC
  have HC := Lib.hid hC
  have hb0 : ∀ w', Below w.heap.size w w' → WS w' B wb A lc l tick cb ns kb cs (.slice Av K.length cap) K := fun w' hb => hS.below hb (Nat.le_refl _)
  have HB := Lib.hid hb0
  have g4 := hS.g 4
  simp at g4
  clear hC hb0
  obtain ⟨m', b, off, ht, hA, hblt, hcs⟩ := hS.mons.at_ hi
  subst hA
  clear ht hcs m'
  have HM := Lib.hid hm
  have HN := Lib.hid hn
  clear hm hn
  by_cases hz : n = 0
  · obtain rfl : has = false := by
      rcases h2 with h2 | h2
      · exact absurd hz h2
      · exact h2
    clear h2
    go_enter Tryd.func90, Tryd.ntmps90
    go_wp2_with (go_at_call 106; refine HC.out.mono ?_; rintro e w1 ⟨rfl, hb1⟩; have HS1 := HB.out _ hb1; have g0 := HS1.g 0; simp at g0; have g2 := HS1.g 2; simp at g2; have c0 := HS1.cnt.cell hi; rw [HN.out] at c0; have t5 := HS1.mons.get HM.out 5 (by decide); simp at t5)
    all_goals (go_end0; exact ⟨rfl, HS1, hb1⟩)
  · clear h2
    go_enter Tryd.func90, Tryd.ntmps90
    go_wp2_with (go_at_call 106; refine HC.out.mono ?_; rintro e w1 ⟨rfl, hb1⟩; have HS1 := HB.out _ hb1; have g0 := HS1.g 0; simp at g0; have g2 := HS1.g 2; simp at g2; have c0 := HS1.cnt.cell hi; rw [HN.out] at c0; have t5 := HS1.mons.get HM.out 5 (by decide); simp at t5)
    all_goals (go_end0; exact ⟨rfl, HS1, hb1⟩)
end Go.Proofs.YtonpemikodajdaaDoor
