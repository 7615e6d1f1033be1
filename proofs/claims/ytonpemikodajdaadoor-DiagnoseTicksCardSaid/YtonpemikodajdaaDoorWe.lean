/- The watcher: a code's cells are stored where they lie; code revives or ends, calm counts. -/
import Derived.Test.YtonpemikodajdaaDoorWc
namespace Go.Proofs.YtonpemikodajdaaDoor
open Go.RowKit

theorem cells6_set {K : List (MCode × Value)} {i j : Nat} {p p' : MCode × Value} {u : Value} (hp : K[i]? = some p) (hj : j < 6) (hc : cells6 p' = (cells6 p).set j u) : (K.set i p').flatMap cells6 = (K.flatMap cells6).set (i * 6 + j) u := by
  induction K generalizing i with
  | nil => cases hp
  | cons q r ih =>
    cases i with
    | zero =>
      simp only [List.getElem?_cons_zero, Option.some.injEq] at hp
      subst hp
      rw [List.set_cons_zero, List.flatMap_cons, List.flatMap_cons, hc, Nat.zero_mul, Nat.zero_add, List.set_append_left _ _ (by show j < 6; omega)]
    | succ i =>
      rw [List.set_cons_succ, List.flatMap_cons, List.flatMap_cons, ih (by simpa using hp), List.set_append_right _ _ (by show 6 ≤ _; omega)]
      rw [show (i + 1) * 6 + j - (cells6 q).length = i * 6 + j by show _ - 6 = _; omega]
theorem mem_set_or {α : Type} {K : List α} {i : Nat} {x y : α} (h : x ∈ K.set i y) : x = y ∨ x ∈ K := by
  rcases List.mem_or_eq_of_mem_set h with h | h
  · exact .inr h
  · exact .inl h
/-- a cell of a code is stored, but not its frame -/
theorem WS.setCode {w : World} {B wb : Nat} {A : Option Addr} {lc : Caps} {l : List MMon} {tick : Int} {cb : Nat} {ns : List Int} {kb : Nat} {cs : List Int} {g n cap : Nat} {K : List (MCode × Value)}
    (h : WS w B wb A lc l tick cb ns kb cs (.slice (some ⟨g, 0, none⟩) n cap) K) (hn : n = K.length) {ix : Nat} {p p' : MCode × Value} (hp : K[ix]? = some p) {j : Nat} (hj : j < 6) {u : Value} (hc : cells6 p' = (cells6 p).set j u) (hf : p'.2 = p.2 ∧ p'.1.frame = p.1.frame) :
    WS (w.setCell ⟨g, ix * 6 + j, none⟩ u) B wb A lc l tick cb ns kb cs (.slice (some ⟨g, 0, none⟩) n cap) (K.set ix p') := by
  subst hn
  have hv := h.vb g rfl
  have hg := (own_block_lt h.row g rfl).1
  have h9 := (World.ownsRow.stored (show w.ownsRow B 46 6 (.slice (some ⟨g, 0, none⟩) K.length cap) K.length _ from h.row) (ix * 6 + j) u).1
  have hfr : ∀ q, FrameU w (fun b => b ≠ wb ∧ b ≠ cb ∧ b ≠ kb ∧ some b ≠ (Value.slice (some ⟨g, 0, none⟩) K.length cap).ownBlock ∧ B ≤ b) q → FrameU (w.setCell ⟨g, ix * 6 + j, none⟩ u) (fun b => b ≠ wb ∧ b ≠ cb ∧ b ≠ kb ∧ some b ≠ (Value.slice (some ⟨g, 0, none⟩) K.length cap).ownBlock ∧ B ≤ b) q := fun q hq =>
    hq.keep (by simp) (fun b' _ hu => Below.heap_setCell w ⟨g, ix * 6 + j, none⟩ _ b' (fun e => hu.2.2.2.1 (by rw [e]; rfl))) (fun _ _ hu => hu)
  refine ⟨(Below.heap_setCell w ⟨g, ix * 6 + j, none⟩ _ wb (fun e => hv.1 e.symm)).trans h.hw, h.mons.below ((Below.refl B w).setCell hg _) (Nat.le_refl _), h.bw, h.bc, h.bk, h.n1, h.n2, h.n3, h.cnt.far (fun e => hv.2.1 e.symm) _, h.clm.far (fun e => hv.2.2 e.symm) _, ?_, h.vb, fun q hq => ?_⟩
  · unfold RowC
    rw [cells6_set hp hj hc, List.length_set]
    exact h9
  · rcases mem_set_or hq with rfl | hq
    · obtain ⟨Af, cf, h1, h2, h3, h4⟩ := hfr p (h.frames p (List.mem_of_getElem? hp))
      exact ⟨Af, cf, by rw [hf.1, hf.2]; exact h1, by rw [hf.2]; exact h2, by rw [hf.2]; exact h3, by rw [hf.2]; exact h4⟩
    · exact hfr q (h.frames q hq)

theorem WS.clmFacts {w : World} {B wb b off : Nat} {lc : Caps} {l : List MMon} {tick : Int} {cb : Nat} {ns : List Int} {kb : Nat} {cs : List Int} {V : Value} {K : List (MCode × Value)}
    (h : WS w B wb (some ⟨b, off, none⟩) lc l tick cb ns kb cs V K) (hcs : cs.length = l.length) {i : Nat} (hi : i < l.length) {m : MMon} (hm : l[i]? = some m) (n : Int) :
    (w.setCell ⟨kb, i, none⟩ (.int .i64 n)).cell? ⟨wb, 3, none⟩ = some (.slice (some ⟨kb, 0, none⟩) l.length lc.2.2) ∧ (w.setCell ⟨kb, i, none⟩ (.int .i64 n)).cell? ⟨wb, 0, none⟩ = some (.slice (some ⟨b, off, none⟩) l.length lc.1) ∧
    (w.setCell ⟨kb, i, none⟩ (.int .i64 n)).cell? ⟨b, off + i * 7 + 6, none⟩ = some (.int .i64 m.heal) ∧ w.cell? ⟨wb, 3, none⟩ = some (.slice (some ⟨kb, 0, none⟩) l.length lc.2.2) ∧ w.cell? ⟨wb, 0, none⟩ = some (.slice (some ⟨b, off, none⟩) l.length lc.1) ∧ w.cell? ⟨b, off + i * 7 + 6, none⟩ = some (.int .i64 m.heal) := by
  have h2 := h.setClm hcs hi n
  exact ⟨h2.g 3, h2.g 0, h2.mons.get hm 6 (by decide), h.g 3, h.g 0, h.mons.get hm 6 (by decide)⟩
theorem WS.form {w : World} {B wb : Nat} {A : Option Addr} {lc : Caps} {l : List MMon} {tick : Int} {cb : Nat} {ns : List Int} {kb : Nat} {cs : List Int} {V : Value} {K : List (MCode × Value)}
    (h : WS w B wb A lc l tick cb ns kb cs V K) (hK : 0 < K.length) : ∃ g cap, V = .slice (some ⟨g, 0, none⟩) K.length cap ∧ B ≤ g := by
  rcases id h.row.2 with ⟨_, h0⟩ | ⟨g, cap, cur, hv, hg, r⟩
  · omega
  · exact ⟨g, cap, hv, hg⟩
theorem WS.codeCell {w : World} {B wb g cap : Nat} {A : Option Addr} {lc : Caps} {l : List MMon} {tick : Int} {cb : Nat} {ns : List Int} {kb : Nat} {cs : List Int} {K : List (MCode × Value)}
    (h : WS w B wb A lc l tick cb ns kb cs (.slice (some ⟨g, 0, none⟩) K.length cap) K) {ix : Nat} {p : MCode × Value} (hp : K[ix]? = some p) (j : Nat) (hj : j < 6) : w.cell? ⟨g, ix * 6 + j, none⟩ = (cells6 p)[j]? ∧ w.frozen? ⟨g, ix * 6 + j, none⟩ = false := by
  have hix : ix < K.length := by
    rcases Nat.lt_or_ge ix K.length with hh | hh
    · exact hh
    · rw [List.getElem?_eq_none hh] at hp; cases hp
  have hr : w.ownsRow B 46 6 (.slice (some ⟨g, 0, none⟩) K.length cap) K.length (K.flatMap cells6) := h.row
  exact ⟨(World.ownsRow.cellAt hr (ix * 6 + j) (by omega)).trans (cells6_at hp hj), World.ownsRow.frozenAt hr _⟩
theorem count_again {n : Int} (h : 0 ≤ n ∧ n ≤ 1000) : (if 1000 < IntKind.i64.wrap (n + 1) then 1000 else IntKind.i64.wrap (n + 1)) = min (n + 1) 1000 := by
  rw [IntWalk.i64_in _ (by omega)]
  split <;> omega
theorem WS.setAgain {w : World} {B wb g cap : Nat} {A : Option Addr} {lc : Caps} {l : List MMon} {tick : Int} {cb : Nat} {ns : List Int} {kb : Nat} {cs : List Int} {K : List (MCode × Value)}
    (h : WS w B wb A lc l tick cb ns kb cs (.slice (some ⟨g, 0, none⟩) K.length cap) K) {ix : Nat} {p : MCode × Value} (hp : K[ix]? = some p) (t : Int) {x y : Int} (hx : x = y) :
    WS (((w.setCell ⟨g, ix * 6 + 5, none⟩ (.bool true)).setCell ⟨g, ix * 6 + 2, none⟩ (.int .i64 t)).setCell ⟨g, ix * 6 + 3, none⟩ (.int .i64 x)).drew B wb A lc l tick cb ns kb cs (.slice (some ⟨g, 0, none⟩) K.length cap) (K.set ix ({ p.1 with active := true, last := t, count := y }, p.2)) := by
  subst hx
  have hix : ix < K.length := by
    rcases Nat.lt_or_ge ix K.length with hh | hh
    · exact hh
    · rw [List.getElem?_eq_none hh] at hp; cases hp
  have h1 := h.setCode rfl hp (p' := ({ p.1 with active := true }, p.2)) (j := 5) (by decide) (u := .bool true) rfl ⟨rfl, rfl⟩
  have h2 := h1.setCode (by simp) (List.getElem?_set_self hix) (p' := ({ p.1 with active := true, last := t }, p.2)) (j := 2) (by decide) (u := .int .i64 t) rfl ⟨rfl, rfl⟩
  rw [List.set_set] at h2
  have h3 := h2.setCode (by simp) (List.getElem?_set_self hix) (p' := ({ p.1 with active := true, last := t, count := x }, p.2)) (j := 3) (by decide) (u := .int .i64 x) rfl ⟨rfl, rfl⟩
  rw [List.set_set] at h3
  exact h3.below (B' := _) ⟨rfl, rfl, rfl, Nat.le_refl _, fun _ _ => rfl⟩ (Nat.le_refl _)
/-- a watcher's monitors, counters and codes as cells -/
theorem WS.codeFacts {w : World} {B wb b off : Nat} {lc : Caps} {l : List MMon} {tick : Int} {cb : Nat} {ns : List Int} {kb : Nat} {cs : List Int} {V : Value} {K : List (MCode × Value)}
    (h : WS w B wb (some ⟨b, off, none⟩) lc l tick cb ns kb cs V K) {i : Nat} (hi : i < l.length) {m : MMon} (hm : l[i]? = some m) {n : Int} (hn : ns.getD i 0 = n) :
    w.cell? ⟨wb, 0, none⟩ = some (.slice (some ⟨b, off, none⟩) l.length lc.1) ∧ w.cell? ⟨wb, 1, none⟩ = some (.int .i64 tick) ∧ w.cell? ⟨wb, 2, none⟩ = some (.slice (some ⟨cb, 0, none⟩) l.length lc.2.1) ∧ w.cell? ⟨wb, 4, none⟩ = some V ∧
    w.cell? ⟨cb, i, none⟩ = some (.int .i64 n) ∧ w.cell? ⟨b, off + i * 7 + 5, none⟩ = some (.int .i64 m.limit) := by
  have c0 := h.cnt.cell hi
  rw [hn] at c0
  exact ⟨h.g 0, h.g 1, h.g 2, h.g 4, c0, h.mons.get hm 5 (by decide)⟩
set_option maxRecDepth 100000 in
set_option maxHeartbeats 2000000 in
theorem code_off {w : World} {B wb : Nat} {A : Option Addr} {lc : Caps} {l : List MMon} {tick : Int} {cb : Nat} {ns : List Int} {kb : Nat} {cs : List Int} {V : Value} {K : List (MCode × Value)}
    (hS : WS w B wb A lc l tick cb ns kb cs V K) (hl : l.length ≤ 20) (hK : K.length ≤ 1000000) (hasc : AscC (K.map Prod.fst)) (i : Nat) (hi : i < l.length) (m : MMon) (hm : l[i]? = some m) (R : Option Addr) (rc : Nat) (row : List Int)
    (ix : Nat) (hf : FindP (K.map Prod.fst) i ix true) (p : MCode × Value) (hp : K[ix]? = some p) (hn : ns.getD i 0 = 0) (h1 : 0 ≠ m.limit) :
    Calls Tryd.prog 90 #[.pointer (some ⟨wb, 0, none⟩), .int .i64 i, .slice R row.length rc] w fun e w' => e = .returned (.tuple #[]) ∧ WS w' B wb A lc l tick cb ns kb cs V (K.set ix ({ p.1 with active := false }, p.2)) ∧ Below B w w' := by
  have hix : ix < K.length := by have := (hf.2.2.2.1 rfl).1; simpa using this
  obtain ⟨g, cap, rfl, hg⟩ := hS.form (by omega)
  have hC := find_at (some ⟨g, 0, none⟩) cap (K.map Prod.fst) i w (RowC.codes hS.row hS.frames hK) hasc (by omega) hf
  rw [List.length_map] at hC
  have HC := Lib.hid hC
  have hb0 : ∀ w', Below w.heap.size w w' → WS w' B wb A lc l tick cb ns kb cs (.slice (some ⟨g, 0, none⟩) K.length cap) K := fun w' hb => hS.below hb (Nat.le_refl _)
  have HB := Lib.hid hb0
  have hBw := Nat.le_of_lt (Nat.lt_of_le_of_lt hS.bw hS.lt)
  have g4 := hS.g 4
  simp at g4
  obtain ⟨m', b', off', ht', hA', hblt', hcs'⟩ := hS.mons.at_ hi
  subst hA'
  clear ht' hcs' m'
  have HK := Lib.hid hK
  have HM := Lib.hid hm
  have HN := Lib.hid hn
  have HP := Lib.hid hp
  clear hC hb0 hf hK hasc hS hm hn hp
  go_enter Tryd.func90, Tryd.ntmps90
  go_wp2_with (go_at_call 106; refine HC.out.mono ?_; rintro e w1 ⟨rfl, hb1⟩; have HS1 := HB.out _ hb1; obtain ⟨f0, f1, f2, f4, k0, t5⟩ := HS1.codeFacts hi HM.out HN.out; obtain ⟨c5, c5f⟩ := HS1.codeCell HP.out 5 (by decide))
  have hS9 := HS1.setCode rfl HP.out (p' := ({ p.1 with active := false }, p.2)) (j := 5) (by decide) (u := .bool false) rfl ⟨rfl, rfl⟩
  go_end0
  exact ⟨rfl, hS9, (hb1.mono hBw).setCell hg _⟩
set_option maxRecDepth 100000 in
set_option maxHeartbeats 2000000 in
theorem code_again {w : World} {B wb : Nat} {A : Option Addr} {lc : Caps} {l : List MMon} {tick : Int} {cb : Nat} {ns : List Int} {kb : Nat} {cs : List Int} {V : Value} {K : List (MCode × Value)}
    (hS : WS w B wb A lc l tick cb ns kb cs V K) (hl : l.length ≤ 20) (hK : K.length ≤ 1000000) (hasc : AscC (K.map Prod.fst)) (i : Nat) (hi : i < l.length) (m : MMon) (hm : l[i]? = some m) (R : Option Addr) (rc : Nat) (row : List Int)
    (ix : Nat) (hf : FindP (K.map Prod.fst) i ix true) (p : MCode × Value) (hp : K[ix]? = some p) (ha : p.1.active = false) (hn : ns.getD i 0 = m.limit) (hcb : 0 ≤ p.1.count ∧ p.1.count ≤ 1000) :
    Calls Tryd.prog 90 #[.pointer (some ⟨wb, 0, none⟩), .int .i64 i, .slice R row.length rc] w fun e w' => e = .returned (.tuple #[]) ∧ WS w' B wb A lc l tick cb ns kb cs V (K.set ix ({ p.1 with active := true, last := tick, count := min (p.1.count + 1) 1000 }, p.2)) ∧ Below B w w' := by
  have hix : ix < K.length := by have := (hf.2.2.2.1 rfl).1; simpa using this
  obtain ⟨g, cap, rfl, hg⟩ := hS.form (by omega)
  have hC := find_at (some ⟨g, 0, none⟩) cap (K.map Prod.fst) i w (RowC.codes hS.row hS.frames hK) hasc (by omega) hf
  rw [List.length_map] at hC
  have HC := Lib.hid hC
  have hb0 : ∀ w', Below w.heap.size w w' → WS w' B wb A lc l tick cb ns kb cs (.slice (some ⟨g, 0, none⟩) K.length cap) K := fun w' hb => hS.below hb (Nat.le_refl _)
  have HB := Lib.hid hb0
  have hBw := Nat.le_of_lt (Nat.lt_of_le_of_lt hS.bw hS.lt)
  have g4 := hS.g 4
  simp at g4
  obtain ⟨m', b', off', ht', hA', hblt', hcs'⟩ := hS.mons.at_ hi
  subst hA'
  clear ht' hcs' m'
  have HK := Lib.hid hK
  have HM := Lib.hid hm
  have HN := Lib.hid hn
  have HP := Lib.hid hp
  clear hC hb0 hf hK hasc hS hm hn hp
  go_enter Tryd.func90, Tryd.ntmps90
  go_wp2_with (go_at_call 106; refine HC.out.mono ?_; rintro e w1 ⟨rfl, hb1⟩; have HS1 := HB.out _ hb1; obtain ⟨f0, f1, f2, f4, k0, t5⟩ := HS1.codeFacts hi HM.out HN.out; obtain ⟨c5, c5f⟩ := HS1.codeCell HP.out 5 (by decide); obtain ⟨c2, c2f⟩ := HS1.codeCell HP.out 2 (by decide); obtain ⟨c3, c3f⟩ := HS1.codeCell HP.out 3 (by decide); rw [show (cells6 p)[5]? = some (.bool p.1.active) from rfl, ha] at c5; rw [show (cells6 p)[2]? = some (.int .i64 p.1.last) from rfl] at c2; rw [show (cells6 p)[3]? = some (.int .i64 p.1.count) from rfl] at c3)
  go_region_with (fail)
  all_goals
    have hxx := count_again hcb
    generalize (if 1000 < IntKind.i64.wrap (p.1.count + 1) then 1000 else IntKind.i64.wrap (p.1.count + 1)) = x at hxx ⊢
    have hS9 := Lib.hid (HS1.setAgain HP.out tick hxx)
    have hb9 := Lib.hid ((((hb1.mono hBw).setCell (p := ⟨g, ix * 6 + 5, none⟩) hg (.bool true)).setCell (p := ⟨g, ix * 6 + 2, none⟩) hg (.int .i64 tick)).setCell (p := ⟨g, ix * 6 + 3, none⟩) hg (.int .i64 x))
    clear hxx
    go_wp2_with fail
    go_end0
    exact ⟨rfl, hS9.out, ⟨hb9.out.os, hb9.out.tape, hb9.out.output, hb9.out.size, hb9.out.block⟩⟩
set_option maxRecDepth 100000 in
set_option maxHeartbeats 2000000 in
theorem calm_more {w : World} {B wb : Nat} {A : Option Addr} {lc : Caps} {l : List MMon} {tick : Int} {cb : Nat} {ns : List Int} {kb : Nat} {cs : List Int} {V : Value} {K : List (MCode × Value)}
    (hS : WS w B wb A lc l tick cb ns kb cs V K) (hl : l.length ≤ 20) (hcs : cs.length = l.length) (hK : K.length ≤ 1000000) (hasc : AscC (K.map Prod.fst)) (i : Nat) (hi : i < l.length) (m : MMon) (hm : l[i]? = some m)
    (ix : Nat) (hf : FindP (K.map Prod.fst) i ix true) (ha : ((K.map Prod.fst).getD ix dCode).active = false) (n : Int) (hn : cs.getD i 0 = n) (hnb : 0 ≤ n ∧ n ≤ 100000) (hne : n + 1 ≠ m.heal) :
    Calls Tryd.prog 91 #[.pointer (some ⟨wb, 0, none⟩), .int .i64 i] w fun e w' => e = .returned (.tuple #[]) ∧ WS w' B wb A lc l tick cb ns kb (cs.set i (n + 1)) V K ∧ Below B w w' := by
  obtain ⟨Av, cap, rfl, hcap⟩ := hS.row.lenV
  have hC := find_at Av cap (K.map Prod.fst) i w (RowC.codes hS.row hS.frames hK) hasc (by omega) hf
  rw [List.length_map] at hC
  have HC := Lib.hid hC
  have hb0 : ∀ w', Below w.heap.size w w' → WS w' B wb A lc l tick cb ns kb cs (.slice Av K.length cap) K := fun w' hb => hS.below hb (Nat.le_refl _)
  have HB := Lib.hid hb0
  have hBw := Nat.le_of_lt (Nat.lt_of_le_of_lt hS.bw hS.lt)
  have hbk := hS.bk
  have g4 := hS.g 4
  simp at g4
  have hix : ix < K.length := by have := (hf.2.2.2.1 rfl).1; simpa using this
  obtain ⟨m', b', off', ht', hA', hblt', hcs'⟩ := hS.mons.at_ hi
  subst hA'
  clear ht' hcs' m'
  have HF := Lib.hid hf
  have HK := Lib.hid hK
  have HAC := Lib.hid ha
  have HCS := Lib.hid hcs
  have HM := Lib.hid hm
  have HN := Lib.hid hn
  clear hC hb0 hf hK ha hcs hasc hS hm hn
  go_enter Tryd.func91, Tryd.ntmps91
  go_wp2_with (go_at_call 106; refine HC.out.mono ?_; go_loud (rintro e w1 ⟨rfl, hb1⟩; have HS1 := HB.out _ hb1; obtain ⟨f31, f01, t61, f3, f0, t6⟩ := HS1.clmFacts HCS.out hi HM.out (n + 1); have g41 := HS1.g 4; simp at g41; have k0 := HS1.clm.cell hi; rw [HN.out] at k0; have k1 := HS1.clm.frozen i; obtain ⟨f, b, off, Ap, cp, hg, rfl, hlt, _, _, _, _, _, c5, _, _⟩ := (RowC.codes HS1.row HS1.frames HK.out).at_ (show ix < (K.map Prod.fst).length by simpa using hix); rw [show f.active = false from hg ▸ HAC.out] at c5; have HG := Lib.hid hg; clear hg))
  go_quiet (fail)
  go_wp2_with fail
  have hS9 := HS1.setClm HCS.out hi (n + 1)
  have hb9 : Below B w ((w1.setCell ⟨kb, i, none⟩ (.int .i64 (n + 1))).drewN nq) := ((hb1.mono hBw).setCell hbk _).trans ⟨rfl, rfl, rfl, Nat.le_refl _, fun _ _ => rfl⟩
  go_end0
  exact ⟨rfl, hS9.below (B' := (w1.setCell ⟨kb, i, none⟩ (.int .i64 (n + 1))).heap.size) ⟨rfl, rfl, rfl, Nat.le_refl _, fun _ _ => rfl⟩ (Nat.le_refl _), hb9⟩
end Go.Proofs.YtonpemikodajdaaDoor
