/- Walks: Flow, carries: ours. -/
import Derived.Test.YtegclodchhcbaaaCw
import Derived.Test.YtegclodchhcbaaaJn
import Derived.Deep.DeepCutAuto
import Derived.Deep.CutBlock
namespace Go.Proofs.Ytegclodchhcbaaa
open Go.RowKit

set_option maxRecDepth 100000 in
theorem step_c59 {ops : Array Oper} {o : Oper} {a : Act} {Q' : Act → World → Prop} {Q : Exit → Act → World → Prop} {E : Prop} (w : World) (hg : o.guard = none) (x y : Operand) (ts : Array TypeId) (ho : o.op = .call { callee := .value (.func 59), args := #[x, y], argTypes := ts }) (u v : Value) (R : Value → World → Prop)
    (hx : a.eval x = u) (hy : a.eval y = v) (hC : Calls Try.prog 59 #[u, v] w fun e w' => ∃ r, e = .returned r ∧ R r w')
    (hK : ∀ r w', R r w' → Q' (a.put o.dst r) w') : if Region.wanted o (yielded ops a.tmps) = true then Oper.wp Try.prog o a w Q' Q else E := by
  rw [if_pos (by simp [Region.wanted, hg])]
  have hf : a.eval (.func 59) = .func (.func 59) #[] #[] := rfl
  unfold Oper.wp execOp
  simp only [ho, resolve, invoke, Sem.run_bind, List.map_toArray, List.map_cons, List.map_nil, hx, hy, hf]
  simp [go_sem]
  refine hC.mono ?_
  rintro e w2 ⟨r, rfl, hR⟩
  exact hK r w2 hR
set_option maxRecDepth 100000 in
theorem step_c60 {ops : Array Oper} {o : Oper} {a : Act} {Q' : Act → World → Prop} {Q : Exit → Act → World → Prop} {E : Prop} (w : World) (hg : o.guard = none) (x y x2 y2 : Operand) (ts : Array TypeId) (ho : o.op = .call { callee := .value (.func 60), args := #[x, y, x2, y2], argTypes := ts }) (u v u2 v2 : Value) (R : Value → World → Prop)
    (hx : a.eval x = u) (hy : a.eval y = v) (hx2 : a.eval x2 = u2) (hy2 : a.eval y2 = v2) (hC : Calls Try.prog 60 #[u, v, u2, v2] w fun e w' => ∃ r, e = .returned r ∧ R r w')
    (hK : ∀ r w', R r w' → Q' (a.put o.dst r) w') : if Region.wanted o (yielded ops a.tmps) = true then Oper.wp Try.prog o a w Q' Q else E := by
  rw [if_pos (by simp [Region.wanted, hg])]
  have hf : a.eval (.func 60) = .func (.func 60) #[] #[] := rfl
  unfold Oper.wp execOp
  simp only [ho, resolve, invoke, Sem.run_bind, List.map_toArray, List.map_cons, List.map_nil, hx, hy, hx2, hy2, hf]
  simp [go_sem]
  refine hC.mono ?_
  rintro e w2 ⟨r, rfl, hR⟩
  exact hK r w2 hR
/-- the net of a case, in a block of its own -/
def NetR (w1 : World) (c : Tab) (nb : Nat) (wx : World) : Prop := TabA wx nb c ∧ Below w1.heap.size w1 wx ∧ w1.heap.size ≤ nb
theorem NetR.of {w1 W : World} {g : Nat} {C old : Array Value} {c : Tab} (hC : TabC C c) (hb : Below w1.heap.size w1 W) (hg : w1.heap.size ≤ g) (hh : W.heap[g]? = some (.cells old 86 (0, 0))) : NetR w1 c g (W.setRow g C) :=
  ⟨⟨C, setRow_heap W g old C 86 (0, 0) hh, hC⟩, below_setRow hb hg C, hg⟩
theorem NetR.new {w1 w6 : World} {C : Array Value} {c : Tab} (hC : TabC C c) (hb : Below w1.heap.size w1 w6) : NetR w1 c w6.heap.size (w6.alloc (.cells C 86)) :=
  ⟨⟨C, heap_alloc_new w6 _, hC⟩, hb.alloc hb.size _, hb.size⟩
theorem store86_new (w : World) {C Z : Array Value} {c : Tab} (hC : TabC C c) (hZ : Z.size = 484) : (storeCells ⟨w.heap.size, 0, none⟩ C.toList 0).run Try.prog (w.alloc (.cells Z 86)) = .ok () (w.alloc (.cells C 86)) :=
  run_storeCells_new w 86 Z C hC.sz (by rw [hZ, hC.1]) hC.one
theorem store86_at {w : World} {g : Nat} {C old : Array Value} {c : Tab} (hC : TabC C c) (hh : w.heap[g]? = some (.cells old 86 (0, 0))) (ho : old.size = 484) : (storeCells ⟨g, 0, none⟩ C.toList 0).run Try.prog w = .ok () (w.setRow g C) := by
  have := run_storeVar_row (P := Try.prog) w g 86 86 old C hh hC.sz (by rw [ho, hC.1]) hC.one
  have hz := zero86.2
  cases hq : Try.prog.info? 86 with
  | none => simp [hq] at hz
  | some i =>
    have hs : C.size = i.size := by simp [hq] at hz; rw [hC.1]; omega
    simpa [storeVar, sizeOf, typeInfo, hq, Value.cells, hs] using this
def FlowP (g : MGrid) (F : List MFault) (want : List Int) (w : World) (e : Ending) (w' : World) : Prop :=
  Below w.heap.size w w' ∧ ∃ sum, e = .returned (.tuple #[.int .i64 sum, .int .i64 (checkA g F want)]) ∧ (checkA g F want ≠ 0 → sum = 0) ∧ (checkA g F want = 0 → ∃ n R, GridOk g n ∧ MostG g F want n sum R)
theorem capSum_le {c : Tab} {m : Int} (h : Bd c m) : capSum c ≤ 484 * m := by
  have key : ∀ (f : Nat → Int) (n : Nat), (∀ k, k < n → f k ≤ m * 22) → sumN f n ≤ n * (m * 22) := fun f n hf => by
    induction n with
    | zero => simp [sumN]
    | succ n ih =>
      have h1 := ih fun k hk => hf k (by omega)
      have h2 := hf n (by omega)
      rw [sumN]
      push_cast
      rw [Int.add_mul, Int.one_mul]
      omega
  have key2 : ∀ (f : Nat → Int) (n : Nat), (∀ k, k < n → f k ≤ m) → sumN f n ≤ n * m := fun f n hf => by
    induction n with
    | zero => simp [sumN]
    | succ n ih =>
      have h1 := ih fun k hk => hf k (by omega)
      have h2 := hf n (by omega)
      rw [sumN]
      push_cast
      rw [Int.add_mul, Int.one_mul]
      omega
  have hm : 0 ≤ m := by have := h 0 0; omega
  have h1 := key (fun i => sumN (fun k => edge c (fun x => decide (x = 20)) i k) 22) 22 fun i _ => by
    have := key2 (fun k => edge c (fun x => decide (x = 20)) i k) 22 fun k _ => by
      have := h i k
      show edge c _ i k ≤ m
      unfold edge
      split <;> omega
    rw [Int.mul_comm m 22]
    exact this
  unfold capSum cutN
  omega
set_option maxRecDepth 100000 in
set_option maxHeartbeats 8000000 in
theorem Flow_any (g : MGrid) (A1 A2 A3 : Option Addr) (c1 c2 c3 : Nat) (A : Option Addr) (cap : Nat) (F : List MFault) (Aw : Option Addr) (wc : Nat) (want : List Int) (w : World) (h : GridA w w.heap.size g A1 A2 A3) (hf : FaultsA w w.heap.size A F) (hcap : F.length ≤ cap) (hw : IntsA w w.heap.size Aw want) :
    Calls Try.prog 22 #[.agg (gridC g A1 A2 A3 c1 c2 c3), .slice A F.length cap, .slice Aw want.length wc] w (FlowP g F want w) := by
  obtain ⟨Z, hZ⟩ : ∃ Z, Z = Array.replicate 484 (Value.int .i64 0) := ⟨_, rfl⟩
  have hz86 := zero86.1
  have hZS : Z.size = 484 := by rw [hZ]; simp
  rw [← hZ] at hz86
  clear hZ
  obtain ⟨w1, hw1⟩ : ∃ w1, w.alloc (.cells #[.int .i64 g.nodes, .slice A1 g.lines.length c1, .slice A2 g.srcs.length c2, .slice A3 g.users.length c3] 26) = w1 := ⟨_, rfl⟩
  have hb1 : Below w.heap.size w w1 := by rw [← hw1]; exact (Below.refl _ _).alloc (Nat.le_refl _) _
  have hs1 : w1.heap.size = w.heap.size + 1 := by rw [← hw1]; simp
  have hx1 : w1.heap[w.heap.size]? = some (.cells #[.int .i64 g.nodes, .slice A1 g.lines.length c1, .slice A2 g.srcs.length c2, .slice A3 g.users.length c3] 26 (0, 0)) := by rw [← hw1]; exact heap_alloc_new w _
  have HX : Hid (∀ W, Below w1.heap.size w1 W → Below w.heap.size w W ∧ W.cell? ⟨w.heap.size, 0, none⟩ = some (.int .i64 g.nodes) ∧ W.cell? ⟨w.heap.size, 1, none⟩ = some (.slice A1 g.lines.length c1) ∧ W.cell? ⟨w.heap.size, 2, none⟩ = some (.slice A2 g.srcs.length c2) ∧ W.cell? ⟨w.heap.size, 3, none⟩ = some (.slice A3 g.users.length c3)) := fun W hW => by
    have h1 := (hW.block w.heap.size (by omega)).trans hx1
    exact ⟨hb1.trans (hW.mono (by omega)), cell_of_row W _ 0 _ _ _ h1, cell_of_row W _ 1 _ _ _ h1, cell_of_row W _ 2 _ _ _ h1, cell_of_row W _ 3 _ _ _ h1⟩
  have HG : Hid (∀ W, Below w.heap.size w W → GridA W W.heap.size g A1 A2 A3 ∧ FaultsA W W.heap.size A F ∧ IntsA W W.heap.size Aw want) := fun W hW => ⟨(h.keep hW).more hW.size, (hf.keep hW).more hW.size, (hw.below hW (Nat.le_refl _)).more hW.size⟩
  obtain ⟨_, p0, p1, p2, p3⟩ := HX.out w1 (Below.refl _ _)
  obtain ⟨E, hE⟩ : ∃ E, checkA g F want = E := ⟨_, rfl⟩
  have HE := Lib.hid hE
  have HAL := Lib.hid (fun W hW => all_any g A1 A2 A3 c1 c2 c3 A cap F Aw wc want W (HG.out W hW).1 (HG.out W hW).2.1 hcap (HG.out W hW).2.2 hE)
  unfold gridC at HAL ⊢
  clear h hf hw hb1 hx1
  by_cases hz : E = 0
  · subst hz
    obtain ⟨hk1, _, hk3⟩ := checkA_ok hE
    obtain ⟨n, hgo⟩ := checkG_ok hk1
    obtain ⟨hwo, hwl⟩ := checkW_ok hk3
    have hnu := hgo.nu
    have HLV : Hid (∀ W, Below w1.heap.size w1 W → Calls Try.prog 59 #[.agg #[.int .i64 g.nodes, .slice A1 g.lines.length c1, .slice A2 g.srcs.length c2, .slice A3 g.users.length c3], .slice A F.length cap] W fun e w' => ∃ r, e = .returned r ∧ ∃ C, r = .agg C ∧ TabC C (srcsT F 20 g.srcs (linesT F g.lines zeroT g.lines.length) g.srcs.length) ∧ Below W.heap.size W w') := fun W hW => (live_any g n A1 A2 A3 c1 c2 c3 A cap F W (HG.out W (HX.out W hW).1).1 (HG.out W (HX.out W hW).1).2.1 hgo).mono fun _ _ ⟨⟨C, he, hC⟩, hb⟩ => ⟨_, he, C, rfl, hC, hb⟩
    have HJN : Hid (∀ C1, TabC C1 (srcsT F 20 g.srcs (linesT F g.lines zeroT g.lines.length) g.srcs.length) → ∀ W, Below w1.heap.size w1 W → Calls Try.prog 60 #[.agg C1, .agg #[.int .i64 g.nodes, .slice A1 g.lines.length c1, .slice A2 g.srcs.length c2, .slice A3 g.users.length c3], .slice A F.length cap, .slice Aw want.length wc] W fun e w' => ∃ r, e = .returned r ∧ ∃ C, r = .tuple #[.agg C, .int .i64 (needS g want want.length)] ∧ TabC C (usersT F 21 g.users want (srcsT F 20 g.srcs (linesT F g.lines zeroT g.lines.length) g.srcs.length) want.length) ∧ Below W.heap.size W w') := fun C1 hC1 W hW =>
      (join_any C1 _ hC1 g n A1 A2 A3 c1 c2 c3 A cap F Aw wc want W (HG.out W (HX.out W hW).1).1 (HG.out W (HX.out W hW).1).2.1 (HG.out W (HX.out W hW).1).2.2 hgo hwo (by omega) (hgo.liveBd (Nat.le_refl _))).mono fun _ _ ⟨⟨C, he, hC⟩, hb⟩ => ⟨_, he, C, rfl, hC, hb⟩
    have HGO := Lib.hid hgo
    have HWO := Lib.hid hwo
    have HBD : Hid (Bd (usersT F 21 g.users want (srcsT F 20 g.srcs (linesT F g.lines zeroT g.lines.length) g.srcs.length) want.length) 109600000) := hgo.ourBd hwo (by omega) (Nat.le_refl _)
    have HCT : Hid (∀ S : Nat → Bool, S 20 = true → S 21 = false → cutN 22 (usersT F 21 g.users want (srcsT F 20 g.srcs (linesT F g.lines zeroT g.lines.length) g.srcs.length) want.length) S = cutG g F want S) := fun S h1 h2 => cut_ourT hgo hwo (by have := hgo.few; omega) (by decide) (by decide) h1 h2
    clear hk1 hk3 hE hgo hwo
    generalize (usersT F 21 g.users want (srcsT F 20 g.srcs (linesT F g.lines zeroT g.lines.length) g.srcs.length) want.length) = T at *
    go_enter Try.func22, Try.ntmps22
    go_upto_region 4 with (go_at_call 58; refine (HAL.out _ (HX.out _ (Below.refl _ _)).1).mono ?_; rintro e w2 ⟨rfl, hb2⟩; have HB2 := Lib.hid hb2; clear hb2 p0 p1 p2 p3)
    obtain ⟨_, p0, p1, p2, p3⟩ := HX.out w2 HB2.out
    have HB2D : Below w1.heap.size w1 w2.drew := HB2.out.drew
    have hl2 : w.heap.size < w2.heap.size := by have := HB2.out.size; omega
    have HB2A : Below w1.heap.size w1 (w2.alloc (.cells Z 86)).drew := (HB2.out.alloc HB2.out.size _).drew
    go_cut [9, 10] (fun vn vm wx => ∃ nb, vn = .pointer (some ⟨nb, 0, none⟩) ∧ vm = .int .i64 (needS g want want.length) ∧ Hid (NetR w1 T nb wx))
    case first =>
      go_region_law (first
        | (refine step_c59 _ (by rfl) _ _ _ (by rfl) _ _ _ (by rfl) (by rfl) (HLV.out _ (by first | exact HB2D | exact HB2A)) ?_; rintro r5 w5 ⟨C1, rfl, hC1, hb5⟩; have HC1 := Lib.hid hC1; (try have HZ5 := Lib.hid ((hb5.block w2.heap.size (by simp)).trans (show (w2.alloc (.cells Z 86)).drew.heap[w2.heap.size]? = _ from heap_alloc_new w2 (.cells Z 86)))); have HB5 : Below w1.heap.size w1 w5 := (by first | exact HB2D.trans (hb5.mono HB2D.size) | exact HB2A.trans (hb5.mono HB2A.size)); obtain ⟨_, k0, k1, k2, k3⟩ := HX.out w5 HB5; have hl5 : w.heap.size < w5.heap.size := (by have := HB5.size; omega); clear hb5 hC1)
        | (refine step_c60 _ (by rfl) _ _ _ _ _ (by rfl) _ _ _ _ _ (by rfl) (by rfl) (by rfl) (by rfl) (HJN.out C1 HC1.out _ (by first | exact HB5 | exact HB5.alloc HB5.size _)) ?_; rintro r6 w6 ⟨C, rfl, hC, hb6⟩; have HC := Lib.hid hC; (try have HZ6 := Lib.hid ((hb6.block w5.heap.size (by simp)).trans (heap_alloc_new w5 (.cells Z 86)))); (try have HZ6 := Lib.hid ((hb6.block w2.heap.size (lt_of_cells HZ5.out)).trans HZ5.out)); have HB6 : Below w1.heap.size w1 w6 := (by first | exact HB5.trans (hb6.mono HB5.size) | exact (HB5.alloc HB5.size _).trans (hb6.mono (HB5.alloc HB5.size _).size)); have hcs : C.size = 484 := HC.out.1; have hst0 := store86_new w6 HC.out hZS; have HNR0 := Lib.hid (NetR.new HC.out HB6); (try have hst1 := store86_at HC.out HZ6.out hZS); (try have HNR1 := Lib.hid (NetR.of HC.out HB6 HB2.out.size HZ6.out)); (try have HNR1 := Lib.hid (NetR.of HC.out HB6 HB5.size HZ6.out)); clear hb6 hC)
        | fail)
      all_goals
        go_wp2_with fail
        go_meet
      all_goals (with_reducible first | exact ⟨_, rfl, rfl, HNR0⟩ | exact ⟨_, rfl, rfl, HNR1⟩)
    case rest =>
      obtain ⟨nb, rfl, rfl, HN⟩ := hcut
      rename World => wx
      have HFW := Lib.hid (flow_any nb T wx HN.out.1 (fun x y => (HBD.out x y).1) (fun x y => by have := HBD.out x y; omega) (by have := capSum_le HBD.out; omega))
      clear p0 p1 p2 p3 hz86 hZS HLV HJN HAL
      go_wp2_with (go_at_call 61; refine HFW.out.mono ?_; rintro e w7 ⟨sum, c', R, rfl, _, _, hm7, hs7⟩; have HM7 := Lib.hid hm7; have HS7 := Lib.hid hs7; clear hm7 hs7)
      go_ret2
      refine ⟨(HX.out wx HN.out.2.1).1.trans (HS7.out.below (by have := HN.out.2.2; omega) (HX.out wx HN.out.2.1).1.size), sum, by rw [HE.out]; rfl, fun h => absurd HE.out h, fun _ => ⟨n, R, HGO.out, HM7.out.grid HCT.out HGO.out HWO.out ?_ ?_ ?_ (by decide)⟩⟩
      · have := HGO.out.few; omega
      · have := HGO.out.few; omega
      · have := HGO.out.few; omega
  · have hz' : (E != 0) = true := by simpa using hz
    have HZN : Hid (E ≠ 0) := hz
    clear hE hz
    go_enter Try.func22, Try.ntmps22
    go_wp2_with (go_at_call 58; refine (HAL.out _ (HX.out _ (Below.refl _ _)).1).mono ?_; rintro e w2 ⟨rfl, hb2⟩; have HB2 := Lib.hid hb2; clear hb2)
    go_ret2
    exact ⟨(HX.out _ HB2.out).1, 0, by rw [HE.out]; rfl, fun _ => rfl, fun h => absurd (HE.out.symm.trans h) HZN.out⟩
end Go.Proofs.Ytegclodchhcbaaa
