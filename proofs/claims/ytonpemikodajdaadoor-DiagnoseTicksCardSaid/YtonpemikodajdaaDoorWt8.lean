/- Walk: code, where a code is new and the last. Printed by wt8.py. -/
import Derived.Test.YtonpemikodajdaaDoorWb
import Derived.Deep.RegionHeld3
namespace Go.Proofs.YtonpemikodajdaaDoor
open Go.RowKit

theorem yields_build {P : Program} {ops : Array Oper} {S : World → Prop} {o : Oper} {a : Act} (hg : o.guard = none) (t : TypeId) (parts : List (Nat × Operand)) (ho : o.op = .build t parts.toArray) {cells : Array Value}
    (hc : P.built t (parts.map fun (i, x) => (i, a.eval x)) = some cells) : YieldsIf P ops S o (.agg cells) a :=
  .inl ⟨by simp [Region.wanted, hg], fun w _ => by
    have hc' : P.built t (parts.toArray.map fun (i, x) => (i, a.eval x)).toList = some cells := by rw [List.map_toArray]; exact hc
    unfold execOp
    simp only [ho, Sem.run_bind, run_build w t _ cells hc', Result.andThen_ok]
    rfl⟩
theorem built_struct {P : Program} {t : TypeId} {it : TypeInfo} {fields : Array Field} {z : Value} {places : List (Nat × Nat)} (h1 : P.info? t = some it) (h2 : P.underlying t = some (.struct fields)) (h3 : it.zero = some z)
    (h4 : fields.toList.mapM (fun f => (P.info? f.type).map fun i => (f.offset, i.size)) = some places) (parts : List (Nat × Value)) : P.built t parts = Instr.fill (places.toArray[·]?) z.cells parts := by
  unfold Program.built
  simp only [h1, h2, h3, h4]
theorem code_fields : (match Tryd.prog.underlying 46 with | some (.struct fields) => fields.toList.mapM (fun f => (Tryd.prog.info? f.type).map fun i => (f.offset, i.size)) | _ => none) = some [(0, 1), (1, 1), (2, 1), (3, 1), (4, 1), (5, 1)] := by kernel_rfl
theorem built_code (a b c d : Int) (A : Option Addr) (n k : Nat) (e : Bool) :
    Tryd.prog.built 46 [(0, .int .i64 a), (1, .int .i64 b), (2, .int .i64 c), (3, .int .i64 d), (4, .slice A n k), (5, .bool e)] = some #[.int .i64 a, .int .i64 b, .int .i64 c, .int .i64 d, .slice A n k, .bool e] := by
  obtain ⟨i0, hi, hz0, hz1, hz2⟩ := info_parts info_code
  have hf := code_fields
  rcases hu : Tryd.prog.underlying 46 with _ | d
  · rw [hu] at hf; cases hf
  rw [hu] at hf
  cases d
  case struct fields =>
    rw [built_struct hi hu hz0 hf]
    simp [Instr.fill, Value.cells]
  all_goals cases hf
theorem yields_code {ops : Array Oper} {S : World → Prop} {o : Oper} {a : Act} (hg : o.guard = none) (x0 x1 x2 x3 x4 x5 : Operand) (ho : o.op = .build 46 #[(0, x0), (1, x1), (2, x2), (3, x3), (4, x4), (5, x5)]) (v0 v1 v2 v3 : Int) (A : Option Addr) (n k : Nat) (e : Bool)
    (h0 : a.eval x0 = .int .i64 v0) (h1 : a.eval x1 = .int .i64 v1) (h2 : a.eval x2 = .int .i64 v2) (h3 : a.eval x3 = .int .i64 v3) (h4 : a.eval x4 = .slice A n k) (h5 : a.eval x5 = .bool e) :
    YieldsIf Tryd.prog ops S o (.agg #[.int .i64 v0, .int .i64 v1, .int .i64 v2, .int .i64 v3, .slice A n k, .bool e]) a :=
  yields_build hg 46 _ ho (by simp only [List.map_cons, List.map_nil, h0, h1, h2, h3, h4, h5]; exact built_code _ _ _ _ _ _ _ _)
theorem run_bslice (w : World) (a b c d : Int) (A : Option Addr) (n k : Nat) (e : Bool) : (Instr.buildSlice 25 1 #[(0, .agg #[.int .i64 a, .int .i64 b, .int .i64 c, .int .i64 d, .slice A n k, .bool e])]).run Tryd.prog w = .ok (.slice (some ⟨w.heap.size, 0, none⟩) 1 1) (w.alloc (.cells #[.int .i64 a, .int .i64 b, .int .i64 c, .int .i64 d, .slice A n k, .bool e] 46)) := by
  obtain ⟨i0, hi, hz0, hz1, hz2⟩ := info_parts info_code
  have hr : Array.range 6 = #[0, 1, 2, 3, 4, 5] := by decide
  simp [Instr.buildSlice, run_underlying under_codes, sizeOf, typeInfo, zeroValue, hi, hz0, hz1, newRow, Instr.fill, Value.cells, hr]
theorem step_bslice {ops : Array Oper} {o : Oper} {a : Act} {K : Act → World → Prop} {Q : Exit → Act → World → Prop} {E : Prop} (w : World) (hg : o.guard = none) (x : Operand) (ho : o.op = .buildSlice 25 1 #[(0, x)]) (v0 v1 v2 v3 : Int) (A : Option Addr) (n k : Nat) (e : Bool)
    (hx : a.eval x = .agg #[.int .i64 v0, .int .i64 v1, .int .i64 v2, .int .i64 v3, .slice A n k, .bool e])
    (hK : K (a.put o.dst (.slice (some ⟨w.heap.size, 0, none⟩) 1 1)) (w.alloc (.cells #[.int .i64 v0, .int .i64 v1, .int .i64 v2, .int .i64 v3, .slice A n k, .bool e] 46))) :
    if Region.wanted o (yielded ops a.tmps) = true then Oper.wp Tryd.prog o a w K Q else E := by
  rw [if_pos (by simp [Region.wanted, hg])]
  unfold Oper.wp execOp
  simp only [ho, Sem.run_bind, List.map_toArray, List.map_cons, List.map_nil, hx, run_bslice, Result.andThen_ok]
  exact hK
theorem frame_new {w : World} {base : Nat} {Af : Option Addr} {cf : Nat} {row : List Int} {c : MCode} (hr : c.frame = row) (h : OutI w base (.slice Af row.length cf) row) (hc : row.length ≤ cf) (hl : row.length ≤ maxLen) {U : Nat → Prop} (hU : ∀ b, base ≤ b → U b) : FrameU w U (c, .slice Af row.length cf) := by
  subst hr
  refine ⟨Af, cf, rfl, hc, hl, fun hn => ?_⟩
  obtain ⟨g, hA, hb, hO⟩ := h.ownF hn
  exact ⟨g, 0, hA, hO.lt, hU g hb, fun i hi => by rw [Nat.zero_add]; exact hO.cell hi⟩
theorem new_done {w w1 w2 w6 : World} {B wb : Nat} {A : Option Addr} {lc : Caps} {l : List MMon} {tick : Int} {cb : Nat} {ns : List Int} {kb : Nat} {cs : List Int} {V : Value} {K : List (MCode × Value)} {o : Obj} {g n cap' cf : Nat} {Af : Option Addr} {row : List Int} {c : MCode}
    (h1 : WS w1.drew B wb A lc l tick cb ns kb cs V K) (h2 : WS w2 B wb A lc l tick cb ns kb cs V K) (hb2 : Below w1.drew.heap.size w1.drew w2) (hg : (w2.alloc o).grownBy w6 V.ownBlock) (hR : RowC w6 B (.slice (some ⟨g, 0, none⟩) n cap') (K ++ [(c, .slice Af row.length cf)])) (hat : V.ownBlock = some g ∨ g = (w2.alloc o).heap.size)
    (hO : OutI w2 w1.drew.heap.size (.slice Af row.length cf) row) (hcf : row.length ≤ cf) (hrl : row.length ≤ 1000) (hb1 : Below w.heap.size w w1) (hBw : B ≤ w.heap.size) (hc : c.frame = row) :
    WS (w6.setCell ⟨wb, 4, none⟩ (.slice (some ⟨g, 0, none⟩) n cap')) B wb A lc l tick cb ns kb cs (.slice (some ⟨g, 0, none⟩) n cap') (K ++ [(c, .slice Af row.length cf)]) ∧ Below B w (w6.setCell ⟨wb, 4, none⟩ (.slice (some ⟨g, 0, none⟩) n cap')) := by
  have h3 := h2.below ((Below.refl _ _).alloc (Nat.le_refl _) o) (Nat.le_refl _)
  have hs1 := hb1.size
  have hsd : w1.drew.heap.size = w1.heap.size := rfl
  have hs2 := hb2.size
  have hfr : FrameU w2 (fun b => b ≠ wb ∧ b ≠ cb ∧ b ≠ kb ∧ some b ≠ V.ownBlock ∧ B ≤ b) (c, .slice Af row.length cf) := frame_new hc hO hcf (by unfold maxLen; omega) fun b hb => ⟨fun e => by have := h1.lt; omega, fun e => by have := h1.cnt.lt; omega, fun e => by have := h1.clm.lt; omega, fun e => by have := (own_block_lt h1.row b e.symm).2; omega, by omega⟩
  have hf3 : FrameU (w2.alloc o) (fun b => b ≠ wb ∧ b ≠ cb ∧ b ≠ kb ∧ some b ≠ V.ownBlock ∧ B ≤ b) (c, .slice Af row.length cf) := hfr.keep (by simp) (fun b hb _ => Below.heap_alloc w2 o b hb) (fun _ _ hu => hu)
  refine ⟨h3.pushed hg hR hat hf3, ?_⟩
  have hb3 : Below B w1 (w2.alloc o) := ((Below.refl w1.heap.size w1).drew.trans (hb2.alloc hs2 o)).mono (by omega)
  have hvl := own_block_lt h3.row
  exact ((hb1.mono hBw).trans hb3 |>.grown hg (by simp; omega) (fun k hk => (hvl k hk).1)).setCell h1.bw _
set_option maxRecDepth 100000 in
set_option maxHeartbeats 4000000 in
theorem code_new {w : World} {B wb : Nat} {A : Option Addr} {lc : Caps} {l : List MMon} {tick : Int} {cb : Nat} {ns : List Int} {kb : Nat} {cs : List Int} {V : Value} {K : List (MCode × Value)}
    (hS : WS w B wb A lc l tick cb ns kb cs V K) (hl : l.length ≤ 20) (hK : K.length ≤ 1000000) (hasc : AscC (K.map Prod.fst)) (i : Nat) (hi : i < l.length) (m : MMon) (hm : l[i]? = some m) (R : Option Addr) (rc : Nat) (row : List Int)
    (hrow : IntsA w B R row) (hrl : row.length ≤ 1000) (hf : FindP (K.map Prod.fst) i K.length false) (hn : ns.getD i 0 = m.limit) :
    Calls Tryd.prog 90 #[.pointer (some ⟨wb, 0, none⟩), .int .i64 i, .slice R row.length rc] w fun e w' => e = .returned (.tuple #[]) ∧ (∃ V' v, WS w' B wb A lc l tick cb ns kb cs V' (K ++ [(⟨i, tick, tick, 1, row, true⟩, v)])) ∧ Below B w w' := by
  obtain ⟨Av, cap, rfl, hcap⟩ := hS.row.lenV
  have hC := find_at Av cap (K.map Prod.fst) i w (RowC.codes hS.row hS.frames hK) hasc (by omega) hf
  rw [List.length_map] at hC
  have HC := Lib.hid hC
  have hb0 : ∀ w', Below w.heap.size w w' → WS w' B wb A lc l tick cb ns kb cs (.slice Av K.length cap) K := fun w' hb => hS.below hb (Nat.le_refl _)
  have HB := Lib.hid hb0
  have hBw := Nat.lt_of_le_of_lt hS.bw hS.lt
  have g4 := hS.g 4
  simp at g4
  clear hC hb0
  obtain ⟨m', b, off, ht, hA, hblt, hcs⟩ := hS.mons.at_ hi
  subst hA
  clear ht hcs m'
  have HM := Lib.hid hm
  have HN := Lib.hid hn
  have HROW := Lib.hid hrow
  clear hm hn hrow
  go_enter Tryd.func90, Tryd.ntmps90
  go_wp2_with (go_at_call 106; refine HC.out.mono ?_; rintro e w1 ⟨rfl, hb1⟩; have HS1 := HB.out _ hb1; have g0 := HS1.g 0; simp at g0; have g2 := HS1.g 2; simp at g2; have c0 := HS1.cnt.cell hi; rw [HN.out] at c0; have t5 := HS1.mons.get HM.out 5 (by decide); simp at t5)
  have g14 := HS1.g 4
  have g11 := HS1.g 1
  simp at g14 g11
  have hSd := HS1.below (Below.refl w1.heap.size w1).drew (Nat.le_refl _)
  have hRd : IntsA w1.drew w1.drew.heap.size R row := ((HROW.out.keep (hb1.mono (Nat.le_of_lt hBw))).more (by have := hb1.size; show _ ≤ w1.heap.size; omega)).drewN 1
  have e1 : w1.drew.cell? ⟨wb, 1, none⟩ = some (.int .i64 tick) := g11
  have HSD := Lib.hid hSd
  have HRD := Lib.hid hRd
  have HKK := Lib.hid hK
  have HFF := Lib.hid hf
  have HAS := Lib.hid hasc
  have HB1 := Lib.hid hb1
  have HBW := Lib.hid (Nat.le_of_lt hBw)
  clear hS HS1 g0 g2 c0 t5 hb1 HB HC HM HN HROW g4 hSd hRd hK hf hasc hcap hBw hblt hl
  refine wp_region_held_drew (S := fun w' => w'.cell? ⟨wb, 1, none⟩ = some (.int .i64 tick)) (by kernel_rfl) e1 (fun hHeld => ?_)
  refine wpAnyH_take (i := 0) (v := ?_) (by simp only [List.getElem?_toArray, List.getElem?_cons_zero]; rfl) (by kernel_rfl) (by kernel_rfl) (by kernel_rfl) (by exact fun _ _ _ h => h) (Or.inl ⟨by rfl, ?_⟩) (by assumption) ?_
  rotate_left 1
  · (intro w hSw; (try dsimp only at hSw); go_simp <;> with_reducible rfl)
  try simp only [Act.put, List.setIfInBounds_toArray, List.set_cons_zero, List.set_cons_succ]
  refine wpAnyH_take (i := 1) (v := ?_) (by simp only [List.getElem?_toArray, List.getElem?_cons_succ, List.getElem?_cons_zero]; rfl) (by kernel_rfl) (by kernel_rfl) (by kernel_rfl) (by exact fun _ _ _ h => h) (Or.inl ⟨by rfl, ?_⟩) (by assumption) ?_
  rotate_left 1
  · (intro w hSw; (try dsimp only at hSw); go_simp <;> with_reducible rfl)
  try simp only [Act.put, List.setIfInBounds_toArray, List.set_cons_zero, List.set_cons_succ]
  refine wpAnyH_take (i := 2) (v := ?_) (by simp only [List.getElem?_toArray, List.getElem?_cons_succ, List.getElem?_cons_zero]; rfl) (by kernel_rfl) (by kernel_rfl) (by kernel_rfl) (by exact fun _ _ _ h => h) (Or.inl ⟨by rfl, ?_⟩) (by assumption) ?_
  rotate_left 1
  · (intro w hSw; (try dsimp only at hSw); go_simp <;> with_reducible rfl)
  try simp only [Act.put, List.setIfInBounds_toArray, List.set_cons_zero, List.set_cons_succ]
  refine wpAnyH_take (i := 3) (v := ?_) (by simp only [List.getElem?_toArray, List.getElem?_cons_succ, List.getElem?_cons_zero]; rfl) (by kernel_rfl) (by kernel_rfl) (by kernel_rfl) (by exact fun _ _ _ h => h) (Or.inl ⟨by rfl, ?_⟩) (by assumption) ?_
  rotate_left 1
  · (intro w hSw; (try dsimp only at hSw); go_simp <;> with_reducible rfl)
  try simp only [Act.put, List.setIfInBounds_toArray, List.set_cons_zero, List.set_cons_succ]
  refine wpAnyH_take (i := 4) (v := ?_) (by simp only [List.getElem?_toArray, List.getElem?_cons_succ, List.getElem?_cons_zero]; rfl) (by kernel_rfl) (by kernel_rfl) (by kernel_rfl) (by exact fun _ _ _ h => h) (Or.inl ⟨by rfl, ?_⟩) (by assumption) ?_
  rotate_left 1
  · (intro w hSw; (try dsimp only at hSw); go_simp <;> with_reducible rfl)
  try simp only [Act.put, List.setIfInBounds_toArray, List.set_cons_zero, List.set_cons_succ]
  refine wpAnyH_take (i := 6) (v := ?_) (by simp only [List.getElem?_toArray, List.getElem?_cons_succ, List.getElem?_cons_zero]; rfl) (by kernel_rfl) (by kernel_rfl) (by kernel_rfl) (by exact fun _ _ _ h => h) (Or.inl ⟨by rfl, ?_⟩) (by assumption) ?_
  rotate_left 1
  · (intro w hSw; (try dsimp only at hSw); go_simp <;> with_reducible rfl)
  try simp only [Act.put, List.setIfInBounds_toArray, List.set_cons_zero, List.set_cons_succ]
  refine wpAnyH_take (i := 7) (v := ?_) (by simp only [List.getElem?_toArray, List.getElem?_cons_succ, List.getElem?_cons_zero]; rfl) (by kernel_rfl) (by kernel_rfl) (by kernel_rfl) (by exact fun _ _ _ h => h) (Or.inl ⟨by rfl, ?_⟩) (by assumption) ?_
  rotate_left 1
  · (intro w hSw; (try dsimp only at hSw); go_simp <;> with_reducible rfl)
  try simp only [Act.put, List.setIfInBounds_toArray, List.set_cons_zero, List.set_cons_succ]
  refine wpAnyH_take (i := 8) (v := ?_) (by simp only [List.getElem?_toArray, List.getElem?_cons_succ, List.getElem?_cons_zero]; rfl) (by kernel_rfl) (by kernel_rfl) (by kernel_rfl) (by exact fun _ _ _ h => h) (Or.inl ⟨by rfl, ?_⟩) (by assumption) ?_
  rotate_left 1
  · (intro w hSw; (try dsimp only at hSw); go_simp <;> with_reducible rfl)
  try simp only [Act.put, List.setIfInBounds_toArray, List.set_cons_zero, List.set_cons_succ]
  refine wpAnyH_take (i := 9) (v := ?_) (by simp only [List.getElem?_toArray, List.getElem?_cons_succ, List.getElem?_cons_zero]; rfl) (by kernel_rfl) (by kernel_rfl) (by kernel_rfl) (by exact fun _ _ _ h => h) (Or.inl ⟨by rfl, ?_⟩) (by assumption) ?_
  rotate_left 1
  · (intro w hSw; (try dsimp only at hSw); go_simp <;> with_reducible rfl)
  try simp only [Act.put, List.setIfInBounds_toArray, List.set_cons_zero, List.set_cons_succ]
  refine wpAnyH_take (i := 10) (v := ?_) (by simp only [List.getElem?_toArray, List.getElem?_cons_succ, List.getElem?_cons_zero]; rfl) (by kernel_rfl) (by kernel_rfl) (by kernel_rfl) (by exact fun _ _ _ h => h) (Or.inl ⟨by rfl, ?_⟩) (by assumption) ?_
  rotate_left 1
  · (intro w hSw; (try dsimp only at hSw); go_simp <;> with_reducible rfl)
  try simp only [Act.put, List.setIfInBounds_toArray, List.set_cons_zero, List.set_cons_succ]
  refine wpAnyH_take (i := 11) (v := ?_) (by simp only [List.getElem?_toArray, List.getElem?_cons_succ, List.getElem?_cons_zero]; rfl) (by kernel_rfl) (by kernel_rfl) (by kernel_rfl) (by exact fun _ _ _ h => h) (Or.inl ⟨by rfl, ?_⟩) (by assumption) ?_
  rotate_left 1
  · (intro w hSw; (try dsimp only at hSw); go_simp <;> with_reducible rfl)
  try simp only [Act.put, List.setIfInBounds_toArray, List.set_cons_zero, List.set_cons_succ]
  refine wpAnyH_take (i := 12) (v := ?_) (by simp only [List.getElem?_toArray, List.getElem?_cons_succ, List.getElem?_cons_zero]; rfl) (by kernel_rfl) (by kernel_rfl) (by kernel_rfl) (by exact fun _ _ _ h => h) (Or.inl ⟨by rfl, ?_⟩) (by assumption) ?_
  rotate_left 1
  · (intro w hSw; (try dsimp only at hSw); go_simp <;> with_reducible rfl)
  try simp only [Act.put, List.setIfInBounds_toArray, List.set_cons_zero, List.set_cons_succ]
  refine wpAnyH_take (i := 13) (v := ?_) (by simp only [List.getElem?_toArray, List.getElem?_cons_succ, List.getElem?_cons_zero]; rfl) (by kernel_rfl) (by kernel_rfl) (by kernel_rfl) (by exact fun _ _ _ h => h) (Or.inl ⟨by rfl, ?_⟩) (by assumption) ?_
  rotate_left 1
  · (intro w hSw; (try dsimp only at hSw); go_simp <;> with_reducible rfl)
  try simp only [Act.put, List.setIfInBounds_toArray, List.set_cons_zero, List.set_cons_succ]
  refine wpAnyH_take (i := 14) (v := ?_) (by simp only [List.getElem?_toArray, List.getElem?_cons_succ, List.getElem?_cons_zero]; rfl) (by kernel_rfl) (by kernel_rfl) (by kernel_rfl) (by exact fun _ _ _ h => h) (Or.inl ⟨by rfl, ?_⟩) (by assumption) ?_
  rotate_left 1
  · (intro w hSw; (try dsimp only at hSw); go_simp <;> with_reducible rfl)
  try simp only [Act.put, List.setIfInBounds_toArray, List.set_cons_zero, List.set_cons_succ]
  refine wpAnyH_take (i := 15) (v := ?_) (by simp only [List.getElem?_toArray, List.getElem?_cons_succ, List.getElem?_cons_zero]; rfl) (by kernel_rfl) (by kernel_rfl) (by kernel_rfl) (by exact fun _ _ _ h => h) (Or.inl ⟨by rfl, ?_⟩) (by assumption) ?_
  rotate_left 1
  · (intro w hSw; (try dsimp only at hSw); go_simp <;> with_reducible rfl)
  try simp only [Act.put, List.setIfInBounds_toArray, List.set_cons_zero, List.set_cons_succ]
  refine wpAnyH_take (i := 16) (v := ?_) (by simp only [List.getElem?_toArray, List.getElem?_cons_succ, List.getElem?_cons_zero]; rfl) (by kernel_rfl) (by kernel_rfl) (by kernel_rfl) (by exact fun _ _ _ h => h) (Or.inl ⟨by rfl, ?_⟩) (by assumption) ?_
  rotate_left 1
  · (intro w hSw; (try dsimp only at hSw); go_simp <;> with_reducible rfl)
  try simp only [Act.put, List.setIfInBounds_toArray, List.set_cons_zero, List.set_cons_succ]
  refine wpAnyH_take (i := 17) (v := ?_) (by simp only [List.getElem?_toArray, List.getElem?_cons_succ, List.getElem?_cons_zero]; rfl) (by kernel_rfl) (by kernel_rfl) (by kernel_rfl) (by exact fun _ _ _ h => h) (Or.inl ⟨by rfl, ?_⟩) (by assumption) ?_
  rotate_left 1
  · (intro w hSw; (try dsimp only at hSw); go_simp <;> with_reducible rfl)
  try simp only [Act.put, List.setIfInBounds_toArray, List.set_cons_zero, List.set_cons_succ]
  refine wpAnyH_take (i := 18) (v := ?_) (by simp only [List.getElem?_toArray, List.getElem?_cons_succ, List.getElem?_cons_zero]; rfl) (by kernel_rfl) (by kernel_rfl) (by kernel_rfl) (by exact fun _ _ _ h => h) (Or.inl ⟨by rfl, ?_⟩) (by assumption) ?_
  rotate_left 1
  · (intro w hSw; (try dsimp only at hSw); go_simp <;> with_reducible rfl)
  try simp only [Act.put, List.setIfInBounds_toArray, List.set_cons_zero, List.set_cons_succ]
  refine wpAnyH_ready (rs := [5, 19]) (by kernel_rfl) (by simp) ?_
  refine AllReadyH.cons (by simp only [List.getElem?_toArray, List.getElem?_cons_succ, List.getElem?_cons_zero]; rfl) (fun KQ hK => ?_) ?_
  · skip
    go_simp
    refine hK.out _ _ ?_ (fun hHeld => ?_)
    · exact e1
    clear hK KQ
    try simp only [Act.put, List.setIfInBounds_toArray, List.set_cons_zero, List.set_cons_succ]
    clear g14 g11 e1
    refine wpAnyH_ready (rs := [19]) (by kernel_rfl) (by simp) ?_
    refine AllReadyH.cons (by simp only [List.getElem?_toArray, List.getElem?_cons_succ, List.getElem?_cons_zero]; rfl) (fun KQ hK => ?_) ?_
    · skip
      refine step_clone _ (by rfl) _ (by rfl) R rc row (by rfl) HRD.out hrl ?_
      intro v w2 hO hb2
      obtain ⟨Af, cf, rfl, hcf, hfb⟩ := hO.lenV
      have HO := Lib.hid hO
      have HCF := Lib.hid hcf
      clear hO hfb hcf
      have HS2 := Lib.hid (HSD.out.below hb2 (Nat.le_refl _))
      have HB2 := Lib.hid hb2
      clear hb2
      have e2 : w2.cell? ⟨wb, 1, none⟩ = some (.int .i64 tick) := (by simpa using HS2.out.g 1)
      have E3 : Hid (∀ o : Obj, (w2.alloc o).cell? ⟨wb, 1, none⟩ = some (.int .i64 tick)) := fun o => (acell w2 o wb 1 HS2.out.lt).trans e2
      have G24 : Hid (w2.cell? ⟨wb, 4, none⟩ = some (.slice Av K.length cap)) := (by have := HS2.out.g 4; simp at this; exact this)
      refine hK.out _ _ ?_ (fun hHeld => ?_)
      · exact e2
      clear hK KQ
      try simp only [Act.put, List.setIfInBounds_toArray, List.set_cons_zero, List.set_cons_succ]
      clear e2
      refine wpAnyH_take (i := 20) (v := .agg #[.int .i64 i, .int .i64 tick, .int .i64 tick, .int .i64 1, .slice Af row.length cf, .bool true]) (by simp only [List.getElem?_toArray, List.getElem?_cons_succ, List.getElem?_cons_zero]; rfl) (by kernel_rfl) (by kernel_rfl) (by kernel_rfl) (by exact fun _ _ _ h => h) (yields_code (by rfl) (.tmp 50) (.tmp 55) (.tmp 60) (.const (.int .i64 1)) (.tmp 62) (.const (.bool true)) (by rfl) i tick tick 1 Af row.length cf true (by rfl) (by rfl) (by rfl) (by rfl) (by rfl) (by rfl)) (by assumption) ?_
      try simp only [Act.put, List.setIfInBounds_toArray, List.set_cons_zero, List.set_cons_succ]
      refine wpAnyH_ready (rs := [21]) (by kernel_rfl) (by simp) ?_
      refine AllReadyH.cons (by simp only [List.getElem?_toArray, List.getElem?_cons_succ, List.getElem?_cons_zero]; rfl) (fun KQ hK => ?_) ?_
      · skip
        refine step_bslice _ (by rfl) _ (by rfl) i tick tick 1 Af row.length cf true (by rfl) ?_
        refine hK.out _ _ ?_ (fun hHeld => ?_)
        · exact E3.out _
        clear hK KQ
        try simp only [Act.put, List.setIfInBounds_toArray, List.set_cons_zero, List.set_cons_succ]
        refine wpAnyH_ready (rs := [22]) (by kernel_rfl) (by simp) ?_
        refine AllReadyH.cons (by simp only [List.getElem?_toArray, List.getElem?_cons_succ, List.getElem?_cons_zero]; rfl) (fun KQ hK => ?_) ?_
        · skip
          refine step_insert _ (by rfl) _ _ _ (by rfl) (.slice Av K.length cap) K w2.heap.size (⟨i, tick, tick, 1, row, true⟩, .slice Af row.length cf) B (by rfl) (by rfl) (by rfl) (HS2.out.below ((Below.refl _ _).alloc (Nat.le_refl _) _) (Nat.le_refl _)).row (by rfl) (fun j u hj => (newcell _ _ _ _).trans (by simpa [cells6] using hj)) HKK.out (by have := HS2.out.lt; have := HS2.out.bw; simp; omega) ?_
          intro g cap' w6 hR hg6 hat
          have HR6 := Lib.hid hR
          have HG6 := Lib.hid hg6
          have HAT := Lib.hid hat
          have HBX := Lib.hid ((HS2.out.below ((Below.refl _ _).alloc (Nat.le_refl _) _) (Nat.le_refl _)).box hg6)
          have E6 : Hid (w6.cell? ⟨wb, 1, none⟩ = some (.int .i64 tick)) := (World.cell?_of_block (a := ⟨wb, 1, none⟩) (hg6.block wb (by have := HS2.out.lt; simp; omega) (fun e => (HS2.out.vb wb e.symm).1 rfl))).trans (E3.out _)
          clear hR hg6 hat
          refine hK.out _ _ ?_ (fun hHeld => ?_)
          · exact E6.out
          clear hK KQ
          try simp only [Act.put, List.setIfInBounds_toArray, List.set_cons_zero, List.set_cons_succ]
          refine wpAnyH_take (i := 23) (v := ?_) (by simp only [List.getElem?_toArray, List.getElem?_cons_succ, List.getElem?_cons_zero]; rfl) (by kernel_rfl) (by kernel_rfl) (by kernel_rfl) (by exact fun _ _ _ h => h) (Or.inl ⟨by rfl, ?_⟩) (by assumption) ?_
          rotate_left 1
          · (intro w hSw; (try dsimp only at hSw); go_simp <;> with_reducible rfl)
          try simp only [Act.put, List.setIfInBounds_toArray, List.set_cons_zero, List.set_cons_succ]
          refine wpAnyH_take (i := 24) (v := ?_) (by simp only [List.getElem?_toArray, List.getElem?_cons_succ, List.getElem?_cons_zero]; rfl) (by kernel_rfl) (by kernel_rfl) (by kernel_rfl) (by exact fun _ _ _ h => h) (Or.inl ⟨by rfl, ?_⟩) (by assumption) ?_
          rotate_left 1
          · (intro w hSw; (try dsimp only at hSw); go_simp <;> with_reducible rfl)
          try simp only [Act.put, List.setIfInBounds_toArray, List.set_cons_zero, List.set_cons_succ]
          refine wpAnyH_take (i := 25) (v := ?_) (by simp only [List.getElem?_toArray, List.getElem?_cons_succ, List.getElem?_cons_zero]; rfl) (by kernel_rfl) (by kernel_rfl) (by kernel_rfl) (by exact fun _ _ _ h => h) (Or.inl ⟨by rfl, ?_⟩) (by assumption) ?_
          rotate_left 1
          · (intro w hSw; (try dsimp only at hSw); go_simp <;> with_reducible rfl)
          try simp only [Act.put, List.setIfInBounds_toArray, List.set_cons_zero, List.set_cons_succ]
          refine wpAnyH_ready (rs := [26]) (by kernel_rfl) (by simp) ?_
          refine AllReadyH.cons (by simp only [List.getElem?_toArray, List.getElem?_cons_succ, List.getElem?_cons_zero]; rfl) (fun KQ hK => ?_) ?_
          · skip
            have hy := HBX.out.1
            have hz := HBX.out.2
            go_simp
            clear hy hz
            refine hK.out _ _ ?_ (fun hHeld => ?_)
            · exact (World.cell?_setCell_other w6 _ _ _ (by simp)).trans E6.out
            clear hK KQ
            try simp only [Act.put, List.setIfInBounds_toArray, List.set_cons_zero, List.set_cons_succ]
            refine wpAnyH_done (by kernel_rfl) ?_ _
            have HF := Lib.hid (new_done HSD.out HS2.out HB2.out HG6.out HR6.out HAT.out HO.out HCF.out hrl HB1.out HBW.out rfl)
            go_wp2_with fail
            go_end0
            exact ⟨rfl, ⟨_, _, HF.out.1⟩, HF.out.2⟩
          exact AllReadyH.nil
        exact AllReadyH.nil
      exact AllReadyH.nil
    exact AllReadyH.nil
  refine AllReadyH.cons (by simp only [List.getElem?_toArray, List.getElem?_cons_succ, List.getElem?_cons_zero]; rfl) (fun KQ hK => ?_) ?_
  · skip
    clear g14 g11 e1
    refine step_clone _ (by rfl) _ (by rfl) R rc row (by rfl) HRD.out hrl ?_
    intro v w2 hO hb2
    obtain ⟨Af, cf, rfl, hcf, hfb⟩ := hO.lenV
    have HO := Lib.hid hO
    have HCF := Lib.hid hcf
    clear hO hfb hcf
    have HS2 := Lib.hid (HSD.out.below hb2 (Nat.le_refl _))
    have HB2 := Lib.hid hb2
    clear hb2
    have e2 : w2.cell? ⟨wb, 1, none⟩ = some (.int .i64 tick) := (by simpa using HS2.out.g 1)
    have E3 : Hid (∀ o : Obj, (w2.alloc o).cell? ⟨wb, 1, none⟩ = some (.int .i64 tick)) := fun o => (acell w2 o wb 1 HS2.out.lt).trans e2
    have G24 : Hid (w2.cell? ⟨wb, 4, none⟩ = some (.slice Av K.length cap)) := (by have := HS2.out.g 4; simp at this; exact this)
    refine hK.out _ _ ?_ (fun hHeld => ?_)
    · exact e2
    clear hK KQ
    try simp only [Act.put, List.setIfInBounds_toArray, List.set_cons_zero, List.set_cons_succ]
    clear e2
    refine wpAnyH_take (i := 20) (v := .agg #[.int .i64 i, .int .i64 tick, .int .i64 tick, .int .i64 1, .slice Af row.length cf, .bool true]) (by simp only [List.getElem?_toArray, List.getElem?_cons_succ, List.getElem?_cons_zero]; rfl) (by kernel_rfl) (by kernel_rfl) (by kernel_rfl) (by exact fun _ _ _ h => h) (yields_code (by rfl) (.tmp 50) (.tmp 55) (.tmp 60) (.const (.int .i64 1)) (.tmp 62) (.const (.bool true)) (by rfl) i tick tick 1 Af row.length cf true (by rfl) (by rfl) (by rfl) (by rfl) (by rfl) (by rfl)) (by assumption) ?_
    try simp only [Act.put, List.setIfInBounds_toArray, List.set_cons_zero, List.set_cons_succ]
    refine wpAnyH_ready (rs := [5, 21]) (by kernel_rfl) (by simp) ?_
    refine AllReadyH.cons (by simp only [List.getElem?_toArray, List.getElem?_cons_succ, List.getElem?_cons_zero]; rfl) (fun KQ hK => ?_) ?_
    · skip
      have g24 := G24.out
      go_simp
      refine hK.out _ _ ?_ (fun hHeld => ?_)
      · exact hHeld
      clear hK KQ
      try simp only [Act.put, List.setIfInBounds_toArray, List.set_cons_zero, List.set_cons_succ]
      clear g24
      refine wpAnyH_ready (rs := [21]) (by kernel_rfl) (by simp) ?_
      refine AllReadyH.cons (by simp only [List.getElem?_toArray, List.getElem?_cons_succ, List.getElem?_cons_zero]; rfl) (fun KQ hK => ?_) ?_
      · skip
        refine step_bslice _ (by rfl) _ (by rfl) i tick tick 1 Af row.length cf true (by rfl) ?_
        refine hK.out _ _ ?_ (fun hHeld => ?_)
        · exact E3.out _
        clear hK KQ
        try simp only [Act.put, List.setIfInBounds_toArray, List.set_cons_zero, List.set_cons_succ]
        refine wpAnyH_ready (rs := [22]) (by kernel_rfl) (by simp) ?_
        refine AllReadyH.cons (by simp only [List.getElem?_toArray, List.getElem?_cons_succ, List.getElem?_cons_zero]; rfl) (fun KQ hK => ?_) ?_
        · skip
          refine step_insert _ (by rfl) _ _ _ (by rfl) (.slice Av K.length cap) K w2.heap.size (⟨i, tick, tick, 1, row, true⟩, .slice Af row.length cf) B (by rfl) (by rfl) (by rfl) (HS2.out.below ((Below.refl _ _).alloc (Nat.le_refl _) _) (Nat.le_refl _)).row (by rfl) (fun j u hj => (newcell _ _ _ _).trans (by simpa [cells6] using hj)) HKK.out (by have := HS2.out.lt; have := HS2.out.bw; simp; omega) ?_
          intro g cap' w6 hR hg6 hat
          have HR6 := Lib.hid hR
          have HG6 := Lib.hid hg6
          have HAT := Lib.hid hat
          have HBX := Lib.hid ((HS2.out.below ((Below.refl _ _).alloc (Nat.le_refl _) _) (Nat.le_refl _)).box hg6)
          have E6 : Hid (w6.cell? ⟨wb, 1, none⟩ = some (.int .i64 tick)) := (World.cell?_of_block (a := ⟨wb, 1, none⟩) (hg6.block wb (by have := HS2.out.lt; simp; omega) (fun e => (HS2.out.vb wb e.symm).1 rfl))).trans (E3.out _)
          clear hR hg6 hat
          refine hK.out _ _ ?_ (fun hHeld => ?_)
          · exact E6.out
          clear hK KQ
          try simp only [Act.put, List.setIfInBounds_toArray, List.set_cons_zero, List.set_cons_succ]
          refine wpAnyH_take (i := 23) (v := ?_) (by simp only [List.getElem?_toArray, List.getElem?_cons_succ, List.getElem?_cons_zero]; rfl) (by kernel_rfl) (by kernel_rfl) (by kernel_rfl) (by exact fun _ _ _ h => h) (Or.inl ⟨by rfl, ?_⟩) (by assumption) ?_
          rotate_left 1
          · (intro w hSw; (try dsimp only at hSw); go_simp <;> with_reducible rfl)
          try simp only [Act.put, List.setIfInBounds_toArray, List.set_cons_zero, List.set_cons_succ]
          refine wpAnyH_take (i := 24) (v := ?_) (by simp only [List.getElem?_toArray, List.getElem?_cons_succ, List.getElem?_cons_zero]; rfl) (by kernel_rfl) (by kernel_rfl) (by kernel_rfl) (by exact fun _ _ _ h => h) (Or.inl ⟨by rfl, ?_⟩) (by assumption) ?_
          rotate_left 1
          · (intro w hSw; (try dsimp only at hSw); go_simp <;> with_reducible rfl)
          try simp only [Act.put, List.setIfInBounds_toArray, List.set_cons_zero, List.set_cons_succ]
          refine wpAnyH_take (i := 25) (v := ?_) (by simp only [List.getElem?_toArray, List.getElem?_cons_succ, List.getElem?_cons_zero]; rfl) (by kernel_rfl) (by kernel_rfl) (by kernel_rfl) (by exact fun _ _ _ h => h) (Or.inl ⟨by rfl, ?_⟩) (by assumption) ?_
          rotate_left 1
          · (intro w hSw; (try dsimp only at hSw); go_simp <;> with_reducible rfl)
          try simp only [Act.put, List.setIfInBounds_toArray, List.set_cons_zero, List.set_cons_succ]
          refine wpAnyH_ready (rs := [26]) (by kernel_rfl) (by simp) ?_
          refine AllReadyH.cons (by simp only [List.getElem?_toArray, List.getElem?_cons_succ, List.getElem?_cons_zero]; rfl) (fun KQ hK => ?_) ?_
          · skip
            have hy := HBX.out.1
            have hz := HBX.out.2
            go_simp
            clear hy hz
            refine hK.out _ _ ?_ (fun hHeld => ?_)
            · exact (World.cell?_setCell_other w6 _ _ _ (by simp)).trans E6.out
            clear hK KQ
            try simp only [Act.put, List.setIfInBounds_toArray, List.set_cons_zero, List.set_cons_succ]
            refine wpAnyH_done (by kernel_rfl) ?_ _
            have HF := Lib.hid (new_done HSD.out HS2.out HB2.out HG6.out HR6.out HAT.out HO.out HCF.out hrl HB1.out HBW.out rfl)
            go_wp2_with fail
            go_end0
            exact ⟨rfl, ⟨_, _, HF.out.1⟩, HF.out.2⟩
          exact AllReadyH.nil
        exact AllReadyH.nil
      exact AllReadyH.nil
    refine AllReadyH.cons (by simp only [List.getElem?_toArray, List.getElem?_cons_succ, List.getElem?_cons_zero]; rfl) (fun KQ hK => ?_) ?_
    · skip
      refine step_bslice _ (by rfl) _ (by rfl) i tick tick 1 Af row.length cf true (by rfl) ?_
      refine hK.out _ _ ?_ (fun hHeld => ?_)
      · exact E3.out _
      clear hK KQ
      try simp only [Act.put, List.setIfInBounds_toArray, List.set_cons_zero, List.set_cons_succ]
      refine wpAnyH_ready (rs := [5]) (by kernel_rfl) (by simp) ?_
      refine AllReadyH.cons (by simp only [List.getElem?_toArray, List.getElem?_cons_succ, List.getElem?_cons_zero]; rfl) (fun KQ hK => ?_) ?_
      · skip
        have g25 := (acell w2 (.cells #[.int .i64 i, .int .i64 tick, .int .i64 tick, .int .i64 1, .slice Af row.length cf, .bool true] 46) wb 4 HS2.out.lt).trans G24.out
        go_simp
        refine hK.out _ _ ?_ (fun hHeld => ?_)
        · exact E3.out _
        clear hK KQ
        try simp only [Act.put, List.setIfInBounds_toArray, List.set_cons_zero, List.set_cons_succ]
        clear g25
        refine wpAnyH_ready (rs := [22]) (by kernel_rfl) (by simp) ?_
        refine AllReadyH.cons (by simp only [List.getElem?_toArray, List.getElem?_cons_succ, List.getElem?_cons_zero]; rfl) (fun KQ hK => ?_) ?_
        · skip
          refine step_insert _ (by rfl) _ _ _ (by rfl) (.slice Av K.length cap) K w2.heap.size (⟨i, tick, tick, 1, row, true⟩, .slice Af row.length cf) B (by rfl) (by rfl) (by rfl) (HS2.out.below ((Below.refl _ _).alloc (Nat.le_refl _) _) (Nat.le_refl _)).row (by rfl) (fun j u hj => (newcell _ _ _ _).trans (by simpa [cells6] using hj)) HKK.out (by have := HS2.out.lt; have := HS2.out.bw; simp; omega) ?_
          intro g cap' w6 hR hg6 hat
          have HR6 := Lib.hid hR
          have HG6 := Lib.hid hg6
          have HAT := Lib.hid hat
          have HBX := Lib.hid ((HS2.out.below ((Below.refl _ _).alloc (Nat.le_refl _) _) (Nat.le_refl _)).box hg6)
          have E6 : Hid (w6.cell? ⟨wb, 1, none⟩ = some (.int .i64 tick)) := (World.cell?_of_block (a := ⟨wb, 1, none⟩) (hg6.block wb (by have := HS2.out.lt; simp; omega) (fun e => (HS2.out.vb wb e.symm).1 rfl))).trans (E3.out _)
          clear hR hg6 hat
          refine hK.out _ _ ?_ (fun hHeld => ?_)
          · exact E6.out
          clear hK KQ
          try simp only [Act.put, List.setIfInBounds_toArray, List.set_cons_zero, List.set_cons_succ]
          refine wpAnyH_take (i := 23) (v := ?_) (by simp only [List.getElem?_toArray, List.getElem?_cons_succ, List.getElem?_cons_zero]; rfl) (by kernel_rfl) (by kernel_rfl) (by kernel_rfl) (by exact fun _ _ _ h => h) (Or.inl ⟨by rfl, ?_⟩) (by assumption) ?_
          rotate_left 1
          · (intro w hSw; (try dsimp only at hSw); go_simp <;> with_reducible rfl)
          try simp only [Act.put, List.setIfInBounds_toArray, List.set_cons_zero, List.set_cons_succ]
          refine wpAnyH_take (i := 24) (v := ?_) (by simp only [List.getElem?_toArray, List.getElem?_cons_succ, List.getElem?_cons_zero]; rfl) (by kernel_rfl) (by kernel_rfl) (by kernel_rfl) (by exact fun _ _ _ h => h) (Or.inl ⟨by rfl, ?_⟩) (by assumption) ?_
          rotate_left 1
          · (intro w hSw; (try dsimp only at hSw); go_simp <;> with_reducible rfl)
          try simp only [Act.put, List.setIfInBounds_toArray, List.set_cons_zero, List.set_cons_succ]
          refine wpAnyH_take (i := 25) (v := ?_) (by simp only [List.getElem?_toArray, List.getElem?_cons_succ, List.getElem?_cons_zero]; rfl) (by kernel_rfl) (by kernel_rfl) (by kernel_rfl) (by exact fun _ _ _ h => h) (Or.inl ⟨by rfl, ?_⟩) (by assumption) ?_
          rotate_left 1
          · (intro w hSw; (try dsimp only at hSw); go_simp <;> with_reducible rfl)
          try simp only [Act.put, List.setIfInBounds_toArray, List.set_cons_zero, List.set_cons_succ]
          refine wpAnyH_ready (rs := [26]) (by kernel_rfl) (by simp) ?_
          refine AllReadyH.cons (by simp only [List.getElem?_toArray, List.getElem?_cons_succ, List.getElem?_cons_zero]; rfl) (fun KQ hK => ?_) ?_
          · skip
            have hy := HBX.out.1
            have hz := HBX.out.2
            go_simp
            clear hy hz
            refine hK.out _ _ ?_ (fun hHeld => ?_)
            · exact (World.cell?_setCell_other w6 _ _ _ (by simp)).trans E6.out
            clear hK KQ
            try simp only [Act.put, List.setIfInBounds_toArray, List.set_cons_zero, List.set_cons_succ]
            refine wpAnyH_done (by kernel_rfl) ?_ _
            have HF := Lib.hid (new_done HSD.out HS2.out HB2.out HG6.out HR6.out HAT.out HO.out HCF.out hrl HB1.out HBW.out rfl)
            go_wp2_with fail
            go_end0
            exact ⟨rfl, ⟨_, _, HF.out.1⟩, HF.out.2⟩
          exact AllReadyH.nil
        exact AllReadyH.nil
      exact AllReadyH.nil
    exact AllReadyH.nil
  exact AllReadyH.nil
end Go.Proofs.YtonpemikodajdaaDoor
