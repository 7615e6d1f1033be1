/- Walk laws: Join: what it leaves; the walk's own facts. -/
import Derived.Test.YtegclodchhcbaaaJa
import Derived.Test.YtegclodchhcbaaaJb
namespace Go.Proofs.Ytegclodchhcbaaa
open Go.RowKit

/-- what Join answers -/
def JoinP (a b : MGrid) (ff tt lim : Int) (one : Bool) (w : World) (e : Ending) (w' : World) : Prop :=
  Below w.heap.size w w' ∧ ((joinE a b ff tt lim one ≠ 0 ∧ e = .returned (.tuple #[.agg #[.int .i64 0, .slice none 0 0, .slice none 0 0, .slice none 0 0], .int .i64 (joinE a b ff tt lim one)])) ∨ (joinE a b ff tt lim one = 0 ∧ ∃ A1 A2 A3 c1 c2 c3, e = .returned (.tuple #[.agg (gridC (joinG a b ff tt lim one) A1 A2 A3 c1 c2 c3), .int .i64 0]) ∧ OwnG w' w.heap.size (joinG a b ff tt lim one) A1 A2 A3))
theorem results_gridE {fn : Func} {p u : Tmp} (h : fn.results = #[.cell p 26, .tmp u]) (tmps : Array Value) (w : World) (g : Nat) (cs : Array Value) (hs : cs.size = 4) (v : Value)
    (hp : tmps.getD p undef = .pointer (some ⟨g, 0, none⟩)) (hg : w.heap[g]? = some (.cells cs 26 (0, 0))) (hu : tmps.getD u undef = v) :
    (results fn tmps).run Try.prog w = .ok (.tuple #[.agg cs, v]) w := by
  obtain ⟨d, hd⟩ : ∃ d, Try.prog.underlying 26 = some (.struct d) := ⟨_, Try.underlying26⟩
  rw [results_cell_tmp h, hp, hu]
  simp [asAddr, run_loadVar_row w g 26 26 cs (0, 0) (.struct d) hg hd rfl (by rw [info_grid, hs])]
set_option maxRecDepth 100000 in
theorem step_c76 {ops : Array Oper} {o : Oper} {a : Act} {Q' : Act → World → Prop} {Q : Exit → Act → World → Prop} {E : Prop} (w : World) (hg : o.guard = none) (x : Operand) (ts : Array TypeId) (ho : o.op = .call { callee := .value (.func 76), args := #[x], argTypes := ts }) (u : Value) (R : Value → World → Prop)
    (hx : a.eval x = u) (hC : Calls Try.prog 76 #[u] w fun e w' => ∃ r, e = .returned r ∧ R r w')
    (hK : ∀ r w', R r w' → Q' (a.put o.dst r) w') : if Region.wanted o (yielded ops a.tmps) = true then Oper.wp Try.prog o a w Q' Q else E := by
  rw [if_pos (by simp [Region.wanted, hg])]
  have hf : a.eval (.func 76) = .func (.func 76) #[] #[] := rfl
  unfold Oper.wp execOp
  simp only [ho, resolve, invoke, Sem.run_bind, List.map_toArray, List.map_cons, List.map_nil, hx, hf]
  simp [go_sem]
  refine hC.mono ?_
  rintro e w2 ⟨r, rfl, hR⟩
  exact hK r w2 hR
set_option maxRecDepth 100000 in
theorem step_c77 {ops : Array Oper} {o : Oper} {a : Act} {Q' : Act → World → Prop} {Q : Exit → Act → World → Prop} {E : Prop} (w : World) (hg : o.guard = none) (x : Operand) (ts : Array TypeId) (ho : o.op = .call { callee := .value (.func 77), args := #[x], argTypes := ts }) (u : Value) (R : Value → World → Prop)
    (hx : a.eval x = u) (hC : Calls Try.prog 77 #[u] w fun e w' => ∃ r, e = .returned r ∧ R r w')
    (hK : ∀ r w', R r w' → Q' (a.put o.dst r) w') : if Region.wanted o (yielded ops a.tmps) = true then Oper.wp Try.prog o a w Q' Q else E := by
  rw [if_pos (by simp [Region.wanted, hg])]
  have hf : a.eval (.func 77) = .func (.func 77) #[] #[] := rfl
  unfold Oper.wp execOp
  simp only [ho, resolve, invoke, Sem.run_bind, List.map_toArray, List.map_cons, List.map_nil, hx, hf]
  simp [go_sem]
  refine hC.mono ?_
  rintro e w2 ⟨r, rfl, hR⟩
  exact hK r w2 hR
set_option maxRecDepth 100000 in
theorem step_c78 {ops : Array Oper} {o : Oper} {a : Act} {Q' : Act → World → Prop} {Q : Exit → Act → World → Prop} {E : Prop} (w : World) (hg : o.guard = none) (x : Operand) (ts : Array TypeId) (ho : o.op = .call { callee := .value (.func 78), args := #[x], argTypes := ts }) (u : Value) (R : Value → World → Prop)
    (hx : a.eval x = u) (hC : Calls Try.prog 78 #[u] w fun e w' => ∃ r, e = .returned r ∧ R r w')
    (hK : ∀ r w', R r w' → Q' (a.put o.dst r) w') : if Region.wanted o (yielded ops a.tmps) = true then Oper.wp Try.prog o a w Q' Q else E := by
  rw [if_pos (by simp [Region.wanted, hg])]
  have hf : a.eval (.func 78) = .func (.func 78) #[] #[] := rfl
  unfold Oper.wp execOp
  simp only [ho, resolve, invoke, Sem.run_bind, List.map_toArray, List.map_cons, List.map_nil, hx, hf]
  simp [go_sem]
  refine hC.mono ?_
  rintro e w2 ⟨r, rfl, hR⟩
  exact hK r w2 hR
/-- all that lies below s + 2 lies on; the line's box; the result's -/
structure BelJ (w1 : World) (s : Nat) (lc : Array Value) (W : World) : Prop where
  bel : Below (s + 2) w1 W
  hl : W.heap[s + 2]? = some (.cells lc 67 (0, 0))
  hr : W.heap[s + 3]? = some (.cells #[.int .i64 0, .slice none 0 0, .slice none 0 0, .slice none 0 0] 26 (0, 0))
  sz : s + 4 ≤ W.heap.size
theorem BelJ.next {w1 W W' : World} {s : Nat} {lc : Array Value} (h : BelJ w1 s lc W) (hb : Below W.heap.size W W') : BelJ w1 s lc W' :=
  ⟨h.bel.trans (hb.mono (by have := h.sz; omega)), (hb.block _ (lt_of_cells h.hl)).trans h.hl, (hb.block _ (lt_of_cells h.hr)).trans h.hr, Nat.le_trans h.sz hb.size⟩
theorem BelJ.grows {w1 W W' : World} {s e B : Nat} {lc : Array Value} (h : BelJ w1 s lc W) (hg : Grows W W' B e) (hB : s + 4 ≤ B) : BelJ w1 s lc W' := by
  obtain ⟨row, hg, hr⟩ := hg
  have k : ∀ j, j < s + 4 → W'.heap[j]? = W.heap[j]? := fun j hj => hg.block j (by have := h.sz; omega) fun e => by have := (hr j e.symm).1; omega
  exact ⟨h.bel.grown hg (by have := h.sz; omega) fun j hj => by have := (hr j hj).1; omega, (k _ (by omega)).trans h.hl, (k _ (by omega)).trans h.hr, Nat.le_trans h.sz hg.size⟩
theorem BelJ.set {w1 W : World} {s : Nat} {lc : Array Value} (h : BelJ w1 s lc W) {g : Nat} (o : Nat) (hg : s + 4 ≤ g) (u : Value) : BelJ w1 s lc (W.setCell ⟨g, o, none⟩ u) :=
  ⟨h.bel.setCell (p := ⟨g, o, none⟩) (by show s + 2 ≤ g; omega) _, (Below.heap_setCell W ⟨g, o, none⟩ u (s + 2) (by show s + 2 ≠ g; omega)).trans h.hl, (Below.heap_setCell W ⟨g, o, none⟩ u (s + 3) (by show s + 3 ≠ g; omega)).trans h.hr, by simpa using h.sz⟩
theorem belj_alloc {w1 W : World} {s : Nat} {lc : Array Value} (h : BelJ w1 s lc W) (o : Obj) : BelJ w1 s lc (W.alloc o) := h.next ((Below.refl _ _).alloc (Nat.le_refl _) _)
theorem belj_drew {w1 W : World} {s : Nat} {lc : Array Value} (h : BelJ w1 s lc W) : BelJ w1 s lc W.drew := h.next (Below.refl _ _).drew
theorem belj_set {w1 W : World} {s : Nat} {lc : Array Value} (h : BelJ w1 s lc W) {g o : Nat} (hg : s + 4 ≤ g) (u : Value) : BelJ w1 s lc (W.setCell ⟨g, o, none⟩ u) := h.set o hg u
theorem belJ_set4 {w1 W : World} {s : Nat} {lc : Array Value} (h : BelJ w1 s lc W) {g : Nat} (hg : s + 4 ≤ g) (x y z u : Value) : BelJ w1 s lc ((((W.setCell ⟨g, 0, none⟩ x).setCell ⟨g, 1, none⟩ y).setCell ⟨g, 2, none⟩ z).setCell ⟨g, 3, none⟩ u) :=
  (((h.set 0 hg x).set 1 hg y).set 2 hg z).set 3 hg u
section
variable {W : World} {B g : Nat} {nn : Int} {A1 A2 A3 : Option Addr} {c1 c2 c3 : Nat} {G : MGrid}
theorem JS.new (h1 : ORow W B 67 4 A1 c1 G.lines.length (lineCell G.lines)) (h2 : ORow W B 57 2 A2 c2 G.srcs.length (srcCell G.srcs)) (h3 : ORow W B 55 3 A3 c3 G.users.length (userCell G.users)) :
    JS (W.alloc (.cells #[.int .i64 nn, .slice A1 G.lines.length c1, .slice A2 G.srcs.length c2, .slice A3 G.users.length c3] 26)) B W.heap.size nn A1 A2 A3 c1 c2 c3 G := by
  have hb : ∀ o, Below W.heap.size W (W.alloc o) := fun o => (Below.refl _ _).alloc (Nat.le_refl _) _
  exact ⟨heap_alloc_new W _, h1.next (hb _), h2.next (hb _), h3.next (hb _)⟩
theorem JS.of (h1 : ORow W B 67 4 A1 c1 G.lines.length (lineCell G.lines)) (h2 : ORow W B 57 2 A2 c2 G.srcs.length (srcCell G.srcs)) (h3 : ORow W B 55 3 A3 c3 G.users.length (userCell G.users)) {x y z u : Value} (hg : W.heap[g]? = some (.cells #[x, y, z, u] 26 (0, 0))) :
    JS ((((W.setCell ⟨g, 0, none⟩ (.int .i64 nn)).setCell ⟨g, 1, none⟩ (.slice A1 G.lines.length c1)).setCell ⟨g, 2, none⟩ (.slice A2 G.srcs.length c2)).setCell ⟨g, 3, none⟩ (.slice A3 G.users.length c3)) B g nn A1 A2 A3 c1 c2 c3 G := by
  have k1 := heap_setCell_same W g 0 _ 26 (.int .i64 nn) hg
  have k2 := heap_setCell_same _ g 1 _ 26 (.slice A1 G.lines.length c1) k1
  have k3 := heap_setCell_same _ g 2 _ 26 (.slice A2 G.srcs.length c2) k2
  exact ⟨set4_heap hg _ _ _ _, (((h1.set hg (by decide) _).set k1 (by decide) _).set k2 (by decide) _).set k3 (by decide) _, (((h2.set hg (by decide) _).set k1 (by decide) _).set k2 (by decide) _).set k3 (by decide) _, (((h3.set hg (by decide) _).set k1 (by decide) _).set k2 (by decide) _).set k3 (by decide) _⟩
end
theorem ORow.high {W W' : World} {B e size c m : Nat} {A : Option Addr} {f : Nat → Nat → Value} (h : ORow W B e size A c m f) (hk : ∀ k, B ≤ k → W'.heap[k]? = W.heap[k]?) : ORow W' B e size A c m f := by
  refine h.imp id fun h => ⟨h.1, ?_⟩
  rcases h.2 with hn | ⟨g, cap, cur, hv, hb, hh, r⟩
  · exact .inl hn
  · exact .inr ⟨g, cap, cur, hv, hb, (hk g hb).trans hh, r⟩
theorem JS.high {W W' : World} {B bx : Nat} {nn : Int} {A1 A2 A3 : Option Addr} {c1 c2 c3 : Nat} {G : MGrid} (h : JS W B bx nn A1 A2 A3 c1 c2 c3 G) (hb : B ≤ bx) (hk : ∀ k, B ≤ k → W'.heap[k]? = W.heap[k]?) : JS W' B bx nn A1 A2 A3 c1 c2 c3 G :=
  ⟨(hk bx hb).trans h.box, h.l.high hk, h.s.high hk, h.u.high hk⟩
theorem BelJ.line {w1 W : World} {s : Nat} {x y z u : Value} (h : BelJ w1 s #[x, y, z, u] W) (x' y' : Value) : BelJ w1 s #[x', y', z, u] ((W.setCell ⟨s + 2, 0, none⟩ x').setCell ⟨s + 2, 1, none⟩ y') := by
  have k1 := heap_setCell_same W (s + 2) 0 _ 67 x' h.hl
  have k2 := heap_setCell_same _ (s + 2) 1 _ 67 y' k1
  refine ⟨(h.bel.setCell (p := ⟨s + 2, 0, none⟩) (Nat.le_refl _) _).setCell (p := ⟨s + 2, 1, none⟩) (Nat.le_refl _) _, k2, ?_, by simpa using h.sz⟩
  exact (Below.heap_setCell _ ⟨s + 2, 1, none⟩ _ (s + 3) (by show s + 3 ≠ s + 2; omega)).trans ((Below.heap_setCell _ ⟨s + 2, 0, none⟩ _ (s + 3) (by show s + 3 ≠ s + 2; omega)).trans h.hr)
theorem set_high {W : World} {s B : Nat} (hs : s + 2 < B) (x' y' : Value) (k : Nat) (hk : B ≤ k) : ((W.setCell ⟨s + 2, 0, none⟩ x').setCell ⟨s + 2, 1, none⟩ y').heap[k]? = W.heap[k]? :=
  (Below.heap_setCell _ ⟨s + 2, 1, none⟩ _ k (by show k ≠ s + 2; omega)).trans (Below.heap_setCell _ ⟨s + 2, 0, none⟩ _ k (by show k ≠ s + 2; omega))
theorem take_snocL {l : List MLine} {k : Nat} (hk : k < l.length) (n : Int) : (l.take (k + 1)).map (shL n) = (l.take k).map (shL n) ++ [shL n (l.getD k dLine)] := by
  rw [List.take_add_one, List.getElem?_eq_getElem hk, List.getD_eq_getElem?_getD, List.getElem?_eq_getElem hk, List.map_append]; rfl
theorem take_snocS {l : List MSrc} {k : Nat} (hk : k < l.length) (n : Int) : (l.take (k + 1)).map (shS n) = (l.take k).map (shS n) ++ [shS n (l.getD k dSrc)] := by
  rw [List.take_add_one, List.getElem?_eq_getElem hk, List.getD_eq_getElem?_getD, List.getElem?_eq_getElem hk, List.map_append]; rfl
theorem take_snocU {l : List MUser} {k : Nat} (hk : k < l.length) (n : Int) : (l.take (k + 1)).map (shU n) = (l.take k).map (shU n) ++ [shU n (l.getD k dUser)] := by
  rw [List.take_add_one, List.getElem?_eq_getElem hk, List.getD_eq_getElem?_getD, List.getElem?_eq_getElem hk, List.map_append]; rfl
end Go.Proofs.Ytegclodchhcbaaa
