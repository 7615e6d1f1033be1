/- Walks: walk down a right tree, by the program and by the reference. -/
import Derived.Test.YtonpemikodajdaaDoorRw1
namespace Go.Proofs.YtonpemikodajdaaDoor
open Go.RowKit

/-- the fork that follows fork i for suspect x -/
def nextI (c : MCase) (F : List MFork) (x i : Nat) : Nat := ((fk F i).next.getD ((testAt c (fk F i).test).outs.getD x 0).toNat 0).toNat
/-- from fork i on: the tests, and the leaf -/
inductive WalkR (c : MCase) (F : List MFork) (x : Nat) : Nat → List Int → Nat → Prop
  | leaf (i : Nat) : (fk F i).test < 0 → WalkR c F x i [] i
  | step (i : Nat) (L : List Int) (j : Nat) : 0 ≤ (fk F i).test → WalkR c F x (nextI c F x i) L j → WalkR c F x i ((fk F i).test :: L) j
/-- what a step down finds -/
structure StepP (c : MCase) (F : List MFork) (S : NN) (x i : Nat) (t o : Nat) (p : MProbe) : Prop where
  tv : (fk F i).test = (t : Int)
  tl : t < c.tests.length
  tp : c.tests[t]? = some p
  ov : p.outs.getD x 0 = (o : Int)
  ol : o < 4
  xl : x < p.outs.length
  nl : (fk F i).next.length = 4
  nv : (fk F i).next.getD o 0 = (nextI c F x i : Int)
  up : i < nextI c F x i
  lt : nextI c F x i < F.length
  set : S (nextI c F x i) = partS p.outs (S i) o
  bit : (S (nextI c F x i)).testBit x = true
theorem testAt_of {c : MCase} {t : Nat} {p : MProbe} (h : c.tests[t]? = some p) : testAt c (t : Int) = p := by
  unfold testAt
  rw [Int.toNat_natCast, List.getD_eq_getElem?_getD, h]
  rfl
theorem step_ok {c : MCase} {F : List MFork} {S : NN} (hc : CaseOk c) (hT : TreeOk c F S) (hS : ∀ i, S i < 2 ^ c.weights.length) {x i : Nat} (hi : i < F.length) (hx : (S i).testBit x = true) (ht : (fk F i).test ≠ -1) : ∃ t o p, StepP c F S x i t o p := by
  obtain ⟨h1, h2, h3, _⟩ := hT.node i hi ht
  obtain ⟨t, htv⟩ : ∃ t : Nat, (fk F i).test = (t : Int) := ⟨(fk F i).test.toNat, by omega⟩
  have htl : t < c.tests.length := by omega
  obtain ⟨p, hp⟩ : ∃ p, c.tests[t]? = some p := ⟨_, List.getElem?_eq_getElem htl⟩
  have hpo := hc.p t p hp
  have hxn : x < c.weights.length := bit_lt (hS i) hx
  have hpx := hpo.2.2 x (by omega)
  obtain ⟨o, ho⟩ : ∃ o : Nat, p.outs.getD x 0 = (o : Int) := ⟨(p.outs.getD x 0).toNat, by omega⟩
  have hta : testAt c (fk F i).test = p := by rw [htv]; exact testAt_of hp
  have hs12 := pow12 hc.n2 (hS i)
  have hpos := partS_pos hs12 hx ho
  obtain ⟨⟨hy1, hy2⟩, hy3⟩ := hT.yes i hi ht o (by omega) (by rw [hta]; omega)
  have hnx : nextI c F x i = ((fk F i).next.getD o 0).toNat := by unfold nextI; rw [hta, ho, Int.toNat_natCast]
  rw [hta, ← hnx] at hy3
  refine ⟨t, o, p, htv, htl, hp, ho, by omega, by omega, h3, by rw [hnx]; omega, by rw [hnx]; omega, by rw [hnx]; omega, hy3, ?_⟩
  rw [hy3, partS_bit _ _ _ _ hs12, hx, ho]
  simp
theorem walk_ok {c : MCase} {F : List MFork} {S : NN} (hc : CaseOk c) (hT : TreeOk c F S) (hS : ∀ i, S i < 2 ^ c.weights.length) {x : Nat} : ∀ (n : Nat) {i : Nat}, F.length - i ≤ n → i < F.length → (S i).testBit x = true →
    ∃ L j, WalkR c F x i L j ∧ j < F.length ∧ (S j).testBit x = true ∧ (fk F j).test = -1 ∧ L.length + i ≤ j ∧ ∀ t ∈ L, ∃ k : Nat, t = (k : Int) ∧ k < c.tests.length
  | 0, i, hn, hi, hx => by omega
  | n + 1, i, hn, hi, hx => by
    by_cases ht : (fk F i).test = -1
    · exact ⟨[], i, .leaf i (by omega), hi, hx, ht, by simp, fun t h => by cases h⟩
    · obtain ⟨t, o, p, hp⟩ := step_ok hc hT hS hi hx ht
      have := hp.up
      obtain ⟨L, j, h1, h2, h3, h4, h5, h6⟩ := walk_ok hc hT hS n (i := nextI c F x i) (by omega) hp.lt hp.bit
      refine ⟨(fk F i).test :: L, j, .step i L j (by rw [hp.tv]; omega) h1, h2, h3, h4, by rw [List.length_cons]; omega, fun u hu => ?_⟩
      rcases List.mem_cons.1 hu with e | e
      · exact ⟨t, e.trans hp.tv, hp.tl⟩
      · exact h6 u e
theorem walkR_len {c : MCase} {F : List MFork} {x i j : Nat} {L : List Int} (h : WalkR c F x i L j) (h0 : 0 ≤ (fk F i).test) : ∃ L', L = (fk F i).test :: L' ∧ WalkR c F x (nextI c F x i) L' j := by
  cases h with
  | leaf _ h => omega
  | step _ L' _ _ h => exact ⟨L', rfl, h⟩
theorem walkR_end {c : MCase} {F : List MFork} {x i j : Nat} {L : List Int} (h : WalkR c F x i L j) (h0 : (fk F i).test < 0) : L = [] ∧ i = j := by
  cases h with
  | leaf _ h => exact ⟨rfl, rfl⟩
  | step _ L' _ h => omega
/-! ### the result: a list, and a fork that is a cell -/
theorem fork_under : ∃ f, Tryd.prog.underlying 110 = some (.struct f) := by
  have h : (Tryd.prog.underlying 110).map (fun d => match d with | .struct _ => true | _ => false) = some true := by kernel_rfl
  rcases hu : Tryd.prog.underlying 110 with _ | d
  · rw [hu] at h; cases h
  · rw [hu] at h
    cases d
    case struct f => exact ⟨f, rfl⟩
    all_goals (exfalso; simp at h)
theorem fork_info : (Tryd.prog.info? 110).map (·.size) = some 3 := by kernel_rfl
theorem results_walk {fn : Func} {u p : Tmp} (h : fn.results = #[.tmp u, .cell p 110]) (tmps : Array Value) (w : World) (g : Nat) (a b c v : Value)
    (hp : tmps.getD p undef = .pointer (some ⟨g, 0, none⟩)) (hg : w.heap[g]? = some (.cells #[a, b, c] 110 (0, 0))) (hu : tmps.getD u undef = v) :
    (results fn tmps).run Tryd.prog w = .ok (.tuple #[v, .agg #[a, b, c]]) w := by
  obtain ⟨f, hd⟩ := fork_under
  have hp' : tmps[p]?.getD undef = .pointer (some ⟨g, 0, none⟩) := by simpa using hp
  have hu' : tmps[u]?.getD undef = v := by simpa using hu
  simp [results, h, hp', hu', asAddr, run_loadVar_row w g 110 110 _ (0, 0) (.struct f) hg hd rfl fork_info]
theorem heap_put3 {w1 : World} {g b : Nat} (hb : b ≠ g) (u0 u1 u2 : Value) : (((w1.setCell ⟨g, 0, none⟩ u0).setCell ⟨g, 1, none⟩ u1).setCell ⟨g, 2, none⟩ u2).heap[b]? = w1.heap[b]? :=
  (Below.heap_setCell _ ⟨g, 2, none⟩ _ b hb).trans ((Below.heap_setCell _ ⟨g, 1, none⟩ _ b hb).trans (Below.heap_setCell _ ⟨g, 0, none⟩ _ b hb))
theorem heap_set3 {w : World} {g : Nat} {a b c : Value} (h : w.heap[g]? = some (.cells #[a, b, c] 110 (0, 0))) (a' b' c' : Value) :
    (((w.setCell ⟨g, 0, none⟩ a').setCell ⟨g, 1, none⟩ b').setCell ⟨g, 2, none⟩ c').heap[g]? = some (.cells #[a', b', c'] 110 (0, 0)) := by
  rw [heap_setCell_same _ g 2 _ 110 _ (heap_setCell_same _ g 1 _ 110 _ (heap_setCell_same w g 0 _ 110 _ h))]
  simp
theorem below_put3 {w w1 : World} {B g : Nat} (hb : Below B w w1) (hg : B ≤ g) (a b c : Value) : Below B w (((w1.setCell ⟨g, 0, none⟩ a).setCell ⟨g, 1, none⟩ b).setCell ⟨g, 2, none⟩ c) :=
  ((hb.setCell (p := ⟨g, 0, none⟩) hg _).setCell (p := ⟨g, 1, none⟩) hg _).setCell (p := ⟨g, 2, none⟩) hg _
/-- block g holds fork i -/
theorem heap_cells3 {w : World} {g : Nat} {a b c : Value} (h : w.heap[g]? = some (.cells #[a, b, c] 110 (0, 0))) :
    (w.cell? ⟨g, 0, none⟩ = some a ∧ w.cell? ⟨g, 1, none⟩ = some b ∧ w.cell? ⟨g, 2, none⟩ = some c) ∧ ∀ o, w.frozen? ⟨g, o, none⟩ = false :=
  ⟨⟨by rw [cell_of_row w g 0 _ 110 (0, 0) h]; rfl, by rw [cell_of_row w g 1 _ 110 (0, 0) h]; rfl, by rw [cell_of_row w g 2 _ 110 (0, 0) h]; rfl⟩, fun o => by simp [World.frozen?, h]⟩
structure ForkC (w : World) (g : Nat) (F : List MFork) (i : Nat) (An : Option Addr) (cn : Nat) (As : Option Addr) (cs : Nat) (B : Nat) : Prop where
  hp : w.heap[g]? = some (.cells #[.int .i64 (fk F i).test, .slice An (fk F i).next.length cn, .slice As (fk F i).set.length cs] 110 (0, 0))
  n : IntsA w B An (fk F i).next
  sl : (fk F i).set.length ≤ cs
  s : IntsA w B As (fk F i).set
theorem ForkC.cells {w : World} {g : Nat} {F : List MFork} {i : Nat} {An : Option Addr} {cn : Nat} {As : Option Addr} {cs B : Nat} (h : ForkC w g F i An cn As cs B) :
    w.cell? ⟨g, 0, none⟩ = some (.int .i64 (fk F i).test) ∧ w.cell? ⟨g, 1, none⟩ = some (.slice An (fk F i).next.length cn) ∧ w.cell? ⟨g, 2, none⟩ = some (.slice As (fk F i).set.length cs) :=
  ⟨by rw [cell_of_row w g 0 _ 110 (0, 0) h.hp]; rfl, by rw [cell_of_row w g 1 _ 110 (0, 0) h.hp]; rfl, by rw [cell_of_row w g 2 _ 110 (0, 0) h.hp]; rfl⟩
theorem ForkC.keep {w w' : World} {g : Nat} {F : List MFork} {i : Nat} {An : Option Addr} {cn : Nat} {As : Option Addr} {cs B : Nat} (h : ForkC w g F i An cn As cs B) (hb : Below B w w') (hg : w'.heap[g]? = w.heap[g]?) : ForkC w' g F i An cn As cs B :=
  ⟨hg.trans h.hp, h.n.keep hb, h.sl, h.s.keep hb⟩
def lnOf : Value → Nat | .slice _ n _ => n | _ => 0
def WalkPost (w : World) (F : List MFork) (L : List Int) (j : Nat) (e : Ending) (w' : World) : Prop :=
  ∃ v An cn As cs, e = .returned (.tuple #[v, .agg #[.int .i64 (fk F j).test, .slice An (fk F j).next.length cn, .slice As (fk F j).set.length cs]]) ∧ OutI w' w.heap.size v L ∧ (fk F j).set.length ≤ cs ∧ IntsA w' w.heap.size As (fk F j).set ∧ Below w.heap.size w w'

set_option maxRecDepth 100000 in
set_option maxHeartbeats 8000000 in
theorem walk_any (A1 A2 : Option Addr) (c1 c2 : Nat) (c : MCase) (A : Option Addr) (cap : Nat) (F : List MFork) (S : NN) (x j : Nat) (L : List Int) (w : World) (h : CaseA w w.heap.size A1 A2 c) (hc : CaseOk c) (hF : ForksA w w.heap.size A F) (hT : TreeOk c F S) (hS : ∀ i, S i < 2 ^ c.weights.length) (hx : (S 0).testBit x = true) (hL : WalkR c F x 0 L j) :
    Calls Tryd.prog 75 #[.agg #[.slice A1 c.weights.length c1, .slice A2 c.tests.length c2], .slice A F.length cap, .int .i64 x] w (WalkPost w F L j) := by
  have hb1 : Below w.heap.size w (w.alloc (.cells #[.slice A1 c.weights.length c1, .slice A2 c.tests.length c2] 36)) := (Below.refl _ _).alloc (Nat.le_refl _) _
  have hb2 : Below w.heap.size w ((w.alloc (.cells #[.slice A1 c.weights.length c1, .slice A2 c.tests.length c2] 36)).alloc (.cells #[.int .i64 0, .slice none 0 0, .slice none 0 0] 110)) := hb1.alloc (by simp) _
  have hsz1 : (w.alloc (.cells #[.slice A1 c.weights.length c1, .slice A2 c.tests.length c2] 36)).heap.size = w.heap.size + 1 := by simp
  have hsz2 : ((w.alloc (.cells #[.slice A1 c.weights.length c1, .slice A2 c.tests.length c2] 36)).alloc (.cells #[.int .i64 0, .slice none 0 0, .slice none 0 0] 110)).heap.size = w.heap.size + 1 + 1 := by simp
  have HX := Lib.hid hx
  have HL := Lib.hid hL
  have HOK := Lib.hid hc
  have HTR := Lib.hid hT
  have HSS := Lib.hid hS
  have hn1 := hT.n1
  have hn5 := hT.n2
  have hm12 := hc.t
  obtain ⟨fb, fo, An, cn, As, cs, hA, hfb, t0, t1, t2, hcn, hIn, hcs, hIs⟩ := hF.at_ (show 0 < F.length by omega)
  subst hA
  have g2 : ∀ o, ((w.alloc (.cells #[.slice A1 c.weights.length c1, .slice A2 c.tests.length c2] 36)).alloc (.cells #[.int .i64 0, .slice none 0 0, .slice none 0 0] 110)).cell? ⟨fb, o, none⟩ = w.cell? ⟨fb, o, none⟩ := fun o => bcell hb2 fb o hfb
  have t0 : ((w.alloc (.cells #[.slice A1 c.weights.length c1, .slice A2 c.tests.length c2] 36)).alloc (.cells #[.int .i64 0, .slice none 0 0, .slice none 0 0] 110)).cell? ⟨fb, fo, none⟩ = some (.int .i64 (fk F 0).test) := by rw [g2, show fo = fo + 0 * 3 by omega]; exact t0
  have t1 : ((w.alloc (.cells #[.slice A1 c.weights.length c1, .slice A2 c.tests.length c2] 36)).alloc (.cells #[.int .i64 0, .slice none 0 0, .slice none 0 0] 110)).cell? ⟨fb, fo + 1, none⟩ = some (.slice An (fk F 0).next.length cn) := by rw [g2, show fo + 1 = fo + 0 * 3 + 1 by omega]; exact t1
  have t2 : ((w.alloc (.cells #[.slice A1 c.weights.length c1, .slice A2 c.tests.length c2] 36)).alloc (.cells #[.int .i64 0, .slice none 0 0, .slice none 0 0] 110)).cell? ⟨fb, fo + 2, none⟩ = some (.slice As (fk F 0).set.length cs) := by rw [g2, show fo + 2 = fo + 0 * 3 + 2 by omega]; exact t2
  have HC : Hid (∀ wx, Below w.heap.size w wx → CaseA wx w.heap.size A1 A2 c ∧ ForksA wx w.heap.size (some ⟨fb, fo, none⟩) F) := fun wx hb => ⟨h.keep hb, hF.keep hb⟩
  have n1 : (w.alloc (.cells #[.slice A1 c.weights.length c1, .slice A2 c.tests.length c2] 36)).cell? ⟨w.heap.size, 1, none⟩ = some (.slice A2 c.tests.length c2) := by
    rw [newcell]; rfl
  have HN1 : Hid (∀ wx, Below (w.heap.size + 1) (w.alloc (.cells #[.slice A1 c.weights.length c1, .slice A2 c.tests.length c2] 36)) wx → wx.cell? ⟨w.heap.size, 1, none⟩ = some (.slice A2 c.tests.length c2)) := fun wx hb => (bcell hb _ _ (by omega)).trans n1
  have HIN := Lib.hid hIn
  have HIS := Lib.hid hIs
  clear hx hL hc hT hS h hF hIn hIs n1 hcn g2
  go_enter Tryd.func75, Tryd.ntmps75
  go_wp2_with fail
  have hr0 : ((w.alloc (.cells #[.slice A1 c.weights.length c1, .slice A2 c.tests.length c2] 36)).alloc (.cells #[.int .i64 0, .slice none 0 0, .slice none 0 0] 110)).heap[w.heap.size + 1]? = some (.cells #[.int .i64 0, .slice none 0 0, .slice none 0 0] 110 (0, 0)) := by
    have := heap_alloc_new (w.alloc (.cells #[.slice A1 c.weights.length c1, .slice A2 c.tests.length c2] 36)) (.cells #[.int .i64 0, .slice none 0 0, .slice none 0 0] 110)
    rw [hsz1] at this
    exact this
  have hf3 := heap_alloc_new ((w.alloc (.cells #[.slice A1 c.weights.length c1, .slice A2 c.tests.length c2] 36)).alloc (.cells #[.int .i64 0, .slice none 0 0, .slice none 0 0] 110)) (.cells #[.int .i64 (fk F 0).test, .slice An (fk F 0).next.length cn, .slice As (fk F 0).set.length cs] 110)
  rw [hsz2] at hf3
  have HF0 : Hid (ForkC (((w.alloc (.cells #[.slice A1 c.weights.length c1, .slice A2 c.tests.length c2] 36)).alloc (.cells #[.int .i64 0, .slice none 0 0, .slice none 0 0] 110)).alloc (.cells #[.int .i64 (fk F 0).test, .slice An (fk F 0).next.length cn, .slice As (fk F 0).set.length cs] 110)) (w.heap.size + 1 + 1) F 0 An cn As cs w.heap.size) := ⟨hf3, (HIN.out.keep (hb2.alloc (by omega) _)), hcs, (HIS.out.keep (hb2.alloc (by omega) _))⟩
  have hsz3 : (((w.alloc (.cells #[.slice A1 c.weights.length c1, .slice A2 c.tests.length c2] 36)).alloc (.cells #[.int .i64 0, .slice none 0 0, .slice none 0 0] 110)).alloc (.cells #[.int .i64 (fk F 0).test, .slice An (fk F 0).next.length cn, .slice As (fk F 0).set.length cs] 110)).heap.size = w.heap.size + 3 := by simp
  have HB0 : Hid (Below (w.heap.size + 1) (w.alloc (.cells #[.slice A1 c.weights.length c1, .slice A2 c.tests.length c2] 36)) (((w.alloc (.cells #[.slice A1 c.weights.length c1, .slice A2 c.tests.length c2] 36)).alloc (.cells #[.int .i64 0, .slice none 0 0, .slice none 0 0] 110)).alloc (.cells #[.int .i64 (fk F 0).test, .slice An (fk F 0).next.length cn, .slice As (fk F 0).set.length cs] 110))) := ((Below.refl _ _).alloc (by omega) _).alloc (by omega) _
  have HR0 : Hid ((((w.alloc (.cells #[.slice A1 c.weights.length c1, .slice A2 c.tests.length c2] 36)).alloc (.cells #[.int .i64 0, .slice none 0 0, .slice none 0 0] 110)).alloc (.cells #[.int .i64 (fk F 0).test, .slice An (fk F 0).next.length cn, .slice As (fk F 0).set.length cs] 110)).heap[w.heap.size + 1]? = some (.cells #[.int .i64 0, .slice none 0 0, .slice none 0 0] 110 (0, 0))) := (Below.heap_alloc ((w.alloc (.cells #[.slice A1 c.weights.length c1, .slice A2 c.tests.length c2] 36)).alloc (.cells #[.int .i64 0, .slice none 0 0, .slice none 0 0] 110)) _ _ (by omega)).trans hr0
  clear hf3 hr0 t0 t1 t2 HIN HIS hcs
  generalize ((w.alloc (.cells #[.slice A1 c.weights.length c1, .slice A2 c.tests.length c2] 36)).alloc (.cells #[.int .i64 0, .slice none 0 0, .slice none 0 0] 110)).alloc (.cells #[.int .i64 (fk F 0).test, .slice An (fk F 0).next.length cn, .slice As (fk F 0).set.length cs] 110) = w3 at *
  go_loopw [6] (fun v wr => ∃ (i : Nat) (D L' : List Int) (An : Option Addr) (cn : Nat) (As : Option Addr) (cs : Nat) (Av : Option Addr) (cv : Nat), i < F.length ∧ D.length ≤ i ∧ v = .slice Av D.length cv ∧ Hid (WalkR c F x i L' j) ∧ Hid (D ++ L' = L) ∧ Hid ((S i).testBit x = true) ∧ Hid (OutI wr (w.heap.size + 1 + 1 + 1) v D) ∧ Hid (ForkC wr (w.heap.size + 1 + 1) F i An cn As cs w.heap.size) ∧ Hid (wr.heap[w.heap.size + 1]? = some (.cells #[.int .i64 0, .slice none 0 0, .slice none 0 0] 110 (0, 0))) ∧ Hid (Below (w.heap.size + 1) (w.alloc (.cells #[.slice A1 c.weights.length c1, .slice A2 c.tests.length c2] 36)) wr) ∧ Hid (w.heap.size + 3 ≤ wr.heap.size)) (fun v _ => F.length - lnOf v)
  case atStart => exact ⟨0, [], L, An, cn, As, cs, none, 0, by omega, Nat.le_refl _, rfl, HL.out, rfl, HX.out, OutI.nil _ _, HF0.out, HR0.out, HB0.out, Nat.le_of_eq hsz3.symm⟩
  case round =>
    clear HL HX HF0 HR0 HB0 hsz3
    obtain ⟨i, D, L', An, cn, As, cs, Av, cv, hi, hDi, rfl, HL, HD, HX, HO, HF, HR, HB, HS3⟩ := hrel
    rename World => wr
    obtain ⟨d0, d1, d2⟩ := HF.out.cells
    obtain ⟨ti, hti⟩ : ∃ ti, (fk F i).test = ti := ⟨_, rfl⟩
    have hs3 := HS3.out
    by_cases ht : ti = -1
    · have HT1 : Hid ((fk F i).test < 0) := by show _ < _; omega
      rw [hti, ht] at d0
      have HTI := Lib.hid (hti.trans ht)
      obtain ⟨nn, hnn⟩ : ∃ nn, (fk F i).next.length = nn := ⟨_, rfl⟩
      obtain ⟨ss, hss⟩ : ∃ ss, (fk F i).set.length = ss := ⟨_, rfl⟩
      rw [hnn] at d1
      rw [hss] at d2
      have HNN := Lib.hid hnn
      have HSS2 := Lib.hid hss
      clear ht hti hnn hss
      go_wp2_with fail
      refine wp_region_quiet_tail 3 (by kernel_rfl) (by kernel_rfl) ?_
      simp only [List.take_succ_cons, List.take_zero, List.drop_succ_cons, List.drop_zero]
      repeat (go_big_quiet_step (fail))
      refine wpQuiet_nil ?_
      obtain ⟨⟨e0, e1, e2⟩, ef⟩ := heap_cells3 HR.out
      have f0 := ef 0
      have f1 := ef 1
      have f2 := ef 2
      clear ef
      go_wp2_with fail
      have HE := Lib.hid (heap_set3 (w := wr.drew) HR.out (.int .i64 (-1)) (.slice An nn cn) (.slice As ss cs))
      obtain ⟨rfl, rfl⟩ := walkR_end HL.out HT1.out
      (try simp only [Exit.inBlock, Exit.then])
      have HW := Lib.hid (below_put3 (w := w) (B := w.heap.size) (g := w.heap.size + 1) (hb1.trans (HB.out.drew.mono (by omega))) (by omega) (.int .i64 (-1)) (.slice An nn cn) (.slice As ss cs))
      refine bodyPost_ret (results_walk rfl _ _ (w.heap.size + 1) _ _ _ _ rfl HE.out rfl) rfl ⟨_, An, cn, As, cs, by rw [HTI.out, HNN.out, HSS2.out], ?_, HF.out.sl, ?_, HW.out⟩
      · rw [← HD.out, List.append_nil]
        exact own_base (own_set (own_set (own_set (show OutI wr.drew (w.heap.size + 1 + 1 + 1) (.slice Av D.length cv) D from HO.out) (a := ⟨w.heap.size + 1, 0, none⟩) (show w.heap.size + 1 < _ by omega) _) (a := ⟨w.heap.size + 1, 1, none⟩) (show w.heap.size + 1 < _ by omega) _) (a := ⟨w.heap.size + 1, 2, none⟩) (show w.heap.size + 1 < _ by omega) _) (by omega)
      · exact HF.out.s.keep (below_put3 ((Below.refl w.heap.size wr).drew) (by omega) _ _ _)
    · have HT1 : Hid ((fk F i).test ≠ -1) := by show _ ≠ _; omega
      obtain ⟨t, o, p, hst⟩ := step_ok HOK.out HTR.out HSS.out hi HX.out HT1.out
      have htt := hst.tv
      have htl := hst.tl
      have hol := hst.ol
      have hxl := hst.xl
      have hup := hst.up
      have hml := hst.lt
      obtain ⟨m, hm⟩ : ∃ m, nextI c F x i = m := ⟨_, rfl⟩
      have HST := Lib.hid hst
      have HM := Lib.hid hm
      rw [hm] at hup hml
      rw [htt] at d0
      rw [hst.nl] at d1
      obtain ⟨L2, hL2, hL3⟩ := walkR_len HL.out (by rw [htt]; omega)
      have HD2 : Hid (D ++ [(t : Int)] ++ L2 = L) := by
        show _ = _
        rw [← HD.out, hL2, htt, List.append_assoc]
        rfl
      have HL3 := Lib.hid hL3
      have HTT := Lib.hid htt
      have hle : D.length ≤ 1000000 := by omega
      have hcl := own_block_lt HO.out
      have HCL := Lib.hid hcl
      clear hti ht hst hm htt hL2 hL3 hcl d2
      go_upto_region 4 with (at_builtin; refine app_int _ rfl _ _ rfl (w.heap.size + 1 + 1 + 1) _ D rfl (World.ownsRow.alloc HO.out _) _ _ rfl (newcell _ _ _ _) hle (by simp; omega) ?_; intro v6 w6 hO6 hg6; have HO6 := Lib.hid hO6; have HG6 : Hid (Below (w.heap.size + 1 + 1 + 1) wr w6) := ((Below.refl (w.heap.size + 1 + 1 + 1) wr).alloc (by omega) _).grown hg6 (by simp; omega) (fun k hk => (HCL.out k hk).1); clear hO6 hg6)
      have HB6 : Hid (Below (w.heap.size + 1) (w.alloc (.cells #[.slice A1 c.weights.length c1, .slice A2 c.tests.length c2] 36)) w6) := HB.out.trans (HG6.out.mono (by omega))
      have hs6 := HG6.out.size
      have hb6 : Below w.heap.size w w6 := hb1.trans (HB6.out.mono (by omega))
      have HF6 : Hid (ForkC w6 (w.heap.size + 1 + 1) F i An cn As cs w.heap.size) := HF.out.keep (HG6.out.mono (by omega)) (HG6.out.block _ (by omega))
      have HR6 : Hid (w6.heap[w.heap.size + 1]? = some (.cells #[.int .i64 0, .slice none 0 0, .slice none 0 0] 110 (0, 0))) := (HG6.out.block _ (by omega)).trans HR.out
      have ef := (heap_cells3 HF6.out.hp).2
      have f0 := ef 0
      have f1 := ef 1
      have f2 := ef 2
      obtain ⟨d0, d1, d2⟩ := HF6.out.cells
      rw [HTT.out] at d0
      rw [HST.out.nl] at d1
      obtain ⟨nb, no, hAn, hnb, n0⟩ := HF6.out.n.at_ (k := o) (by rw [HST.out.nl]; omega)
      rw [HST.out.nv, HM.out] at n0
      rw [hAn] at d1
      obtain ⟨hCA, hFA⟩ := HC.out w6 hb6
      obtain ⟨p', tb, tf, Ap, cp, htp, hA2, htb, _, m1, hcp, hIp⟩ := hCA.ts.at_ htl
      rw [HST.out.tp] at htp
      injection htp with htp
      subst htp
      obtain ⟨ob, oo, hAp, hob, o0⟩ := hIp.at_ hxl
      rw [HST.out.ov] at o0
      rw [hAp] at m1
      have q1 := HN1.out w6 HB6.out
      rw [hA2] at q1
      obtain ⟨fb', fo', Bn, bn, Bs, bs, hA, _, r0, r1, r2, hbn, hBn, hbs, hBs⟩ := hFA.at_ hml
      injection hA with hA
      injection hA with e1 e2
      subst e1; subst e2
      have HF7 : Hid (ForkC (((w6.drew.setCell ⟨w.heap.size + 1 + 1, 0, none⟩ (.int .i64 (fk F m).test)).setCell ⟨w.heap.size + 1 + 1, 1, none⟩ (.slice Bn (fk F m).next.length bn)).setCell ⟨w.heap.size + 1 + 1, 2, none⟩ (.slice Bs (fk F m).set.length bs)) (w.heap.size + 1 + 1) F m Bn bn Bs bs w.heap.size) := by
        have hbl : Below w.heap.size w6 (((w6.drew.setCell ⟨w.heap.size + 1 + 1, 0, none⟩ (.int .i64 (fk F m).test)).setCell ⟨w.heap.size + 1 + 1, 1, none⟩ (.slice Bn (fk F m).next.length bn)).setCell ⟨w.heap.size + 1 + 1, 2, none⟩ (.slice Bs (fk F m).set.length bs)) := below_put3 ((Below.refl w.heap.size w6).drew) (by omega) _ _ _
        exact ⟨heap_set3 (w := w6.drew) HF6.out.hp _ _ _, hBn.keep hbl, hbs, hBs.keep hbl⟩
      have HO7 : Hid (OutI (((w6.drew.setCell ⟨w.heap.size + 1 + 1, 0, none⟩ (.int .i64 (fk F m).test)).setCell ⟨w.heap.size + 1 + 1, 1, none⟩ (.slice Bn (fk F m).next.length bn)).setCell ⟨w.heap.size + 1 + 1, 2, none⟩ (.slice Bs (fk F m).set.length bs)) (w.heap.size + 1 + 1 + 1) v6 (D ++ [(t : Int)])) := own_set (own_set (own_set (show OutI w6.drew (w.heap.size + 1 + 1 + 1) v6 (D ++ [(t : Int)]) from HO6.out) (a := ⟨w.heap.size + 1 + 1, 0, none⟩) (show w.heap.size + 1 + 1 < _ by omega) _) (a := ⟨w.heap.size + 1 + 1, 1, none⟩) (show w.heap.size + 1 + 1 < _ by omega) _) (a := ⟨w.heap.size + 1 + 1, 2, none⟩) (show w.heap.size + 1 + 1 < _ by omega) _
      have HR7 : Hid ((((w6.drew.setCell ⟨w.heap.size + 1 + 1, 0, none⟩ (.int .i64 (fk F m).test)).setCell ⟨w.heap.size + 1 + 1, 1, none⟩ (.slice Bn (fk F m).next.length bn)).setCell ⟨w.heap.size + 1 + 1, 2, none⟩ (.slice Bs (fk F m).set.length bs)).heap[w.heap.size + 1]? = some (.cells #[.int .i64 0, .slice none 0 0, .slice none 0 0] 110 (0, 0))) := (heap_put3 (w1 := w6.drew) (by omega) _ _ _).trans HR6.out
      have HB7 : Hid (Below (w.heap.size + 1) (w.alloc (.cells #[.slice A1 c.weights.length c1, .slice A2 c.tests.length c2] 36)) (((w6.drew.setCell ⟨w.heap.size + 1 + 1, 0, none⟩ (.int .i64 (fk F m).test)).setCell ⟨w.heap.size + 1 + 1, 1, none⟩ (.slice Bn (fk F m).next.length bn)).setCell ⟨w.heap.size + 1 + 1, 2, none⟩ (.slice Bs (fk F m).set.length bs))) := below_put3 HB6.out.drew (by omega) _ _ _
      have HSZ : Hid (w.heap.size + 1 + 1 + 1 ≤ (((w6.drew.setCell ⟨w.heap.size + 1 + 1, 0, none⟩ (.int .i64 (fk F m).test)).setCell ⟨w.heap.size + 1 + 1, 1, none⟩ (.slice Bn (fk F m).next.length bn)).setCell ⟨w.heap.size + 1 + 1, 2, none⟩ (.slice Bs (fk F m).set.length bs)).heap.size) := by
        show _ ≤ _
        simp
        omega
      have hxl' : (x : Int) < p.outs.length := by omega
      have hol' : (o : Int) < 4 := by omega
      have hml' : (m : Int) < F.length := by omega
      have htl' : (t : Int) < c.tests.length := by omega
      obtain ⟨Av6, cv6, hv6, hcv6, _⟩ := HO6.out.reads
      have hlv : (D ++ [(t : Int)]).length = D.length + 1 := by simp
      have HLV := Lib.hid hlv
      have HBIT : Hid ((S m).testBit x = true) := by show _ = _; rw [← HM.out]; exact HST.out.bit
      have HL4 : Hid (WalkR c F x m L2 j) := by show WalkR _ _ _ _ _ _; rw [← HM.out]; exact HL3.out
      clear ef HR HF HB HO HL HX hb6 hAn hCA hFA hA2 htb hIp hAp hBn hBs hbs hbn hcp hnb hob HR6 HF6 HB6 HO6 HG6
      refine wp_region_quiet_tail 17 (by kernel_rfl) (by kernel_rfl) ?_
      simp only [List.take_succ_cons, List.take_zero, List.drop_succ_cons, List.drop_zero]
      repeat (go_big_quiet_step (fail))
      refine wpQuiet_nil ?_
      go_wp2_with fail
      go_roundw
      case rel => exact ⟨m, D ++ [(t : Int)], L2, Bn, bn, Bs, bs, Av6, cv6, hml, by rw [HLV.out]; omega, hv6, HL4.out, HD2.out, HBIT.out, HO7.out, HF7.out, HR7.out, HB7.out, HSZ.out⟩
      case measure => rw [hv6]; show F.length - (D ++ [(t : Int)]).length < F.length - D.length; rw [HLV.out]; omega

set_option maxRecDepth 100000 in
set_option maxHeartbeats 8000000 in
theorem rwalk_any (A1 A2 : Option Addr) (c1 c2 : Nat) (c : MCase) (A : Option Addr) (cap : Nat) (F : List MFork) (S : NN) (x j : Nat) (L : List Int) (w : World) (h : CaseA w w.heap.size A1 A2 c) (hc : CaseOk c) (hF : ForksA w w.heap.size A F) (hT : TreeOk c F S) (hS : ∀ i, S i < 2 ^ c.weights.length) (hx : (S 0).testBit x = true) (hL : WalkR c F x 0 L j) :
    Calls Tryd.prog 78 #[.agg #[.slice A1 c.weights.length c1, .slice A2 c.tests.length c2], .slice A F.length cap, .int .i64 x] w (WalkPost w F L j) := by
  have hb1 : Below w.heap.size w (w.alloc (.cells #[.slice A1 c.weights.length c1, .slice A2 c.tests.length c2] 36)) := (Below.refl _ _).alloc (Nat.le_refl _) _
  have hb2 : Below w.heap.size w ((w.alloc (.cells #[.slice A1 c.weights.length c1, .slice A2 c.tests.length c2] 36)).alloc (.cells #[.int .i64 0, .slice none 0 0, .slice none 0 0] 110)) := hb1.alloc (by simp) _
  have hsz1 : (w.alloc (.cells #[.slice A1 c.weights.length c1, .slice A2 c.tests.length c2] 36)).heap.size = w.heap.size + 1 := by simp
  have hsz2 : ((w.alloc (.cells #[.slice A1 c.weights.length c1, .slice A2 c.tests.length c2] 36)).alloc (.cells #[.int .i64 0, .slice none 0 0, .slice none 0 0] 110)).heap.size = w.heap.size + 1 + 1 := by simp
  have HX := Lib.hid hx
  have HL := Lib.hid hL
  have HOK := Lib.hid hc
  have HTR := Lib.hid hT
  have HSS := Lib.hid hS
  have hn1 := hT.n1
  have hn5 := hT.n2
  have hm12 := hc.t
  obtain ⟨fb, fo, An, cn, As, cs, hA, hfb, t0, t1, t2, hcn, hIn, hcs, hIs⟩ := hF.at_ (show 0 < F.length by omega)
  subst hA
  have g2 : ∀ o, ((w.alloc (.cells #[.slice A1 c.weights.length c1, .slice A2 c.tests.length c2] 36)).alloc (.cells #[.int .i64 0, .slice none 0 0, .slice none 0 0] 110)).cell? ⟨fb, o, none⟩ = w.cell? ⟨fb, o, none⟩ := fun o => bcell hb2 fb o hfb
  have t0 : ((w.alloc (.cells #[.slice A1 c.weights.length c1, .slice A2 c.tests.length c2] 36)).alloc (.cells #[.int .i64 0, .slice none 0 0, .slice none 0 0] 110)).cell? ⟨fb, fo, none⟩ = some (.int .i64 (fk F 0).test) := by rw [g2, show fo = fo + 0 * 3 by omega]; exact t0
  have t1 : ((w.alloc (.cells #[.slice A1 c.weights.length c1, .slice A2 c.tests.length c2] 36)).alloc (.cells #[.int .i64 0, .slice none 0 0, .slice none 0 0] 110)).cell? ⟨fb, fo + 1, none⟩ = some (.slice An (fk F 0).next.length cn) := by rw [g2, show fo + 1 = fo + 0 * 3 + 1 by omega]; exact t1
  have t2 : ((w.alloc (.cells #[.slice A1 c.weights.length c1, .slice A2 c.tests.length c2] 36)).alloc (.cells #[.int .i64 0, .slice none 0 0, .slice none 0 0] 110)).cell? ⟨fb, fo + 2, none⟩ = some (.slice As (fk F 0).set.length cs) := by rw [g2, show fo + 2 = fo + 0 * 3 + 2 by omega]; exact t2
  have HC : Hid (∀ wx, Below w.heap.size w wx → CaseA wx w.heap.size A1 A2 c ∧ ForksA wx w.heap.size (some ⟨fb, fo, none⟩) F) := fun wx hb => ⟨h.keep hb, hF.keep hb⟩
  have n1 : (w.alloc (.cells #[.slice A1 c.weights.length c1, .slice A2 c.tests.length c2] 36)).cell? ⟨w.heap.size, 1, none⟩ = some (.slice A2 c.tests.length c2) := by
    rw [newcell]; rfl
  have HN1 : Hid (∀ wx, Below (w.heap.size + 1) (w.alloc (.cells #[.slice A1 c.weights.length c1, .slice A2 c.tests.length c2] 36)) wx → wx.cell? ⟨w.heap.size, 1, none⟩ = some (.slice A2 c.tests.length c2)) := fun wx hb => (bcell hb _ _ (by omega)).trans n1
  have HIN := Lib.hid hIn
  have HIS := Lib.hid hIs
  clear hx hL hc hT hS h hF hIn hIs n1 hcn g2
  go_enter Tryd.func78, Tryd.ntmps78
  go_wp2_with fail
  have hr0 : ((w.alloc (.cells #[.slice A1 c.weights.length c1, .slice A2 c.tests.length c2] 36)).alloc (.cells #[.int .i64 0, .slice none 0 0, .slice none 0 0] 110)).heap[w.heap.size + 1]? = some (.cells #[.int .i64 0, .slice none 0 0, .slice none 0 0] 110 (0, 0)) := by
    have := heap_alloc_new (w.alloc (.cells #[.slice A1 c.weights.length c1, .slice A2 c.tests.length c2] 36)) (.cells #[.int .i64 0, .slice none 0 0, .slice none 0 0] 110)
    rw [hsz1] at this
    exact this
  have hf3 := heap_alloc_new ((w.alloc (.cells #[.slice A1 c.weights.length c1, .slice A2 c.tests.length c2] 36)).alloc (.cells #[.int .i64 0, .slice none 0 0, .slice none 0 0] 110)) (.cells #[.int .i64 (fk F 0).test, .slice An (fk F 0).next.length cn, .slice As (fk F 0).set.length cs] 110)
  rw [hsz2] at hf3
  have HF0 : Hid (ForkC (((w.alloc (.cells #[.slice A1 c.weights.length c1, .slice A2 c.tests.length c2] 36)).alloc (.cells #[.int .i64 0, .slice none 0 0, .slice none 0 0] 110)).alloc (.cells #[.int .i64 (fk F 0).test, .slice An (fk F 0).next.length cn, .slice As (fk F 0).set.length cs] 110)) (w.heap.size + 1 + 1) F 0 An cn As cs w.heap.size) := ⟨hf3, (HIN.out.keep (hb2.alloc (by omega) _)), hcs, (HIS.out.keep (hb2.alloc (by omega) _))⟩
  have hsz3 : (((w.alloc (.cells #[.slice A1 c.weights.length c1, .slice A2 c.tests.length c2] 36)).alloc (.cells #[.int .i64 0, .slice none 0 0, .slice none 0 0] 110)).alloc (.cells #[.int .i64 (fk F 0).test, .slice An (fk F 0).next.length cn, .slice As (fk F 0).set.length cs] 110)).heap.size = w.heap.size + 3 := by simp
  have HB0 : Hid (Below (w.heap.size + 1) (w.alloc (.cells #[.slice A1 c.weights.length c1, .slice A2 c.tests.length c2] 36)) (((w.alloc (.cells #[.slice A1 c.weights.length c1, .slice A2 c.tests.length c2] 36)).alloc (.cells #[.int .i64 0, .slice none 0 0, .slice none 0 0] 110)).alloc (.cells #[.int .i64 (fk F 0).test, .slice An (fk F 0).next.length cn, .slice As (fk F 0).set.length cs] 110))) := ((Below.refl _ _).alloc (by omega) _).alloc (by omega) _
  have HR0 : Hid ((((w.alloc (.cells #[.slice A1 c.weights.length c1, .slice A2 c.tests.length c2] 36)).alloc (.cells #[.int .i64 0, .slice none 0 0, .slice none 0 0] 110)).alloc (.cells #[.int .i64 (fk F 0).test, .slice An (fk F 0).next.length cn, .slice As (fk F 0).set.length cs] 110)).heap[w.heap.size + 1]? = some (.cells #[.int .i64 0, .slice none 0 0, .slice none 0 0] 110 (0, 0))) := (Below.heap_alloc ((w.alloc (.cells #[.slice A1 c.weights.length c1, .slice A2 c.tests.length c2] 36)).alloc (.cells #[.int .i64 0, .slice none 0 0, .slice none 0 0] 110)) _ _ (by omega)).trans hr0
  clear hf3 hr0 t0 t1 t2 HIN HIS hcs
  generalize ((w.alloc (.cells #[.slice A1 c.weights.length c1, .slice A2 c.tests.length c2] 36)).alloc (.cells #[.int .i64 0, .slice none 0 0, .slice none 0 0] 110)).alloc (.cells #[.int .i64 (fk F 0).test, .slice An (fk F 0).next.length cn, .slice As (fk F 0).set.length cs] 110) = w3 at *
  go_loopw [8] (fun v wr => ∃ (i : Nat) (D L' : List Int) (An : Option Addr) (cn : Nat) (As : Option Addr) (cs : Nat) (Av : Option Addr) (cv : Nat), i < F.length ∧ D.length ≤ i ∧ v = .slice Av D.length cv ∧ Hid (WalkR c F x i L' j) ∧ Hid (D ++ L' = L) ∧ Hid ((S i).testBit x = true) ∧ Hid (OutI wr (w.heap.size + 1 + 1 + 1) v D) ∧ Hid (ForkC wr (w.heap.size + 1 + 1) F i An cn As cs w.heap.size) ∧ Hid (wr.heap[w.heap.size + 1]? = some (.cells #[.int .i64 0, .slice none 0 0, .slice none 0 0] 110 (0, 0))) ∧ Hid (Below (w.heap.size + 1) (w.alloc (.cells #[.slice A1 c.weights.length c1, .slice A2 c.tests.length c2] 36)) wr) ∧ Hid (w.heap.size + 3 ≤ wr.heap.size)) (fun v _ => F.length - lnOf v)
  case atStart => exact ⟨0, [], L, An, cn, As, cs, none, 0, by omega, Nat.le_refl _, rfl, HL.out, rfl, HX.out, OutI.nil _ _, HF0.out, HR0.out, HB0.out, Nat.le_of_eq hsz3.symm⟩
  case round =>
    clear HL HX HF0 HR0 HB0 hsz3
    obtain ⟨i, D, L', An, cn, As, cs, Av, cv, hi, hDi, rfl, HL, HD, HX, HO, HF, HR, HB, HS3⟩ := hrel
    rename World => wr
    obtain ⟨d0, d1, d2⟩ := HF.out.cells
    obtain ⟨ti, hti⟩ : ∃ ti, (fk F i).test = ti := ⟨_, rfl⟩
    have hs3 := HS3.out
    by_cases ht : ti = -1
    · have HT1 : Hid ((fk F i).test < 0) := by show _ < _; omega
      rw [hti, ht] at d0
      have HTI := Lib.hid (hti.trans ht)
      obtain ⟨nn, hnn⟩ : ∃ nn, (fk F i).next.length = nn := ⟨_, rfl⟩
      obtain ⟨ss, hss⟩ : ∃ ss, (fk F i).set.length = ss := ⟨_, rfl⟩
      rw [hnn] at d1
      rw [hss] at d2
      have HNN := Lib.hid hnn
      have HSS2 := Lib.hid hss
      clear ht hti hnn hss
      go_wp2_with fail
      refine wp_region_quiet_tail 3 (by kernel_rfl) (by kernel_rfl) ?_
      simp only [List.take_succ_cons, List.take_zero, List.drop_succ_cons, List.drop_zero]
      repeat (go_big_quiet_step (fail))
      refine wpQuiet_nil ?_
      obtain ⟨⟨e0, e1, e2⟩, ef⟩ := heap_cells3 HR.out
      have f0 := ef 0
      have f1 := ef 1
      have f2 := ef 2
      clear ef
      go_wp2_with fail
      have HE := Lib.hid (heap_set3 (w := wr.drew) HR.out (.int .i64 (-1)) (.slice An nn cn) (.slice As ss cs))
      obtain ⟨rfl, rfl⟩ := walkR_end HL.out HT1.out
      (try simp only [Exit.inBlock, Exit.then])
      have HW := Lib.hid (below_put3 (w := w) (B := w.heap.size) (g := w.heap.size + 1) (hb1.trans (HB.out.drew.mono (by omega))) (by omega) (.int .i64 (-1)) (.slice An nn cn) (.slice As ss cs))
      refine bodyPost_ret (results_walk rfl _ _ (w.heap.size + 1) _ _ _ _ rfl HE.out rfl) rfl ⟨_, An, cn, As, cs, by rw [HTI.out, HNN.out, HSS2.out], ?_, HF.out.sl, ?_, HW.out⟩
      · rw [← HD.out, List.append_nil]
        exact own_base (own_set (own_set (own_set (show OutI wr.drew (w.heap.size + 1 + 1 + 1) (.slice Av D.length cv) D from HO.out) (a := ⟨w.heap.size + 1, 0, none⟩) (show w.heap.size + 1 < _ by omega) _) (a := ⟨w.heap.size + 1, 1, none⟩) (show w.heap.size + 1 < _ by omega) _) (a := ⟨w.heap.size + 1, 2, none⟩) (show w.heap.size + 1 < _ by omega) _) (by omega)
      · exact HF.out.s.keep (below_put3 ((Below.refl w.heap.size wr).drew) (by omega) _ _ _)
    · have HT1 : Hid ((fk F i).test ≠ -1) := by show _ ≠ _; omega
      obtain ⟨t, o, p, hst⟩ := step_ok HOK.out HTR.out HSS.out hi HX.out HT1.out
      have htt := hst.tv
      have htl := hst.tl
      have hol := hst.ol
      have hxl := hst.xl
      have hup := hst.up
      have hml := hst.lt
      obtain ⟨m, hm⟩ : ∃ m, nextI c F x i = m := ⟨_, rfl⟩
      have HST := Lib.hid hst
      have HM := Lib.hid hm
      rw [hm] at hup hml
      rw [htt] at d0
      rw [hst.nl] at d1
      obtain ⟨L2, hL2, hL3⟩ := walkR_len HL.out (by rw [htt]; omega)
      have HD2 : Hid (D ++ [(t : Int)] ++ L2 = L) := by
        show _ = _
        rw [← HD.out, hL2, htt, List.append_assoc]
        rfl
      have HL3 := Lib.hid hL3
      have HTT := Lib.hid htt
      have hle : D.length ≤ 1000000 := by omega
      have hcl := own_block_lt HO.out
      have HCL := Lib.hid hcl
      clear hti ht hst hm htt hL2 hL3 hcl d2
      go_upto_region 5 with (at_builtin; refine app_int _ rfl _ _ rfl (w.heap.size + 1 + 1 + 1) _ D rfl (World.ownsRow.alloc HO.out _) _ _ rfl (newcell _ _ _ _) hle (by simp; omega) ?_; intro v6 w6 hO6 hg6; have HO6 := Lib.hid hO6; have HG6 : Hid (Below (w.heap.size + 1 + 1 + 1) wr w6) := ((Below.refl (w.heap.size + 1 + 1 + 1) wr).alloc (by omega) _).grown hg6 (by simp; omega) (fun k hk => (HCL.out k hk).1); clear hO6 hg6)
      have HB6 : Hid (Below (w.heap.size + 1) (w.alloc (.cells #[.slice A1 c.weights.length c1, .slice A2 c.tests.length c2] 36)) w6) := HB.out.trans (HG6.out.mono (by omega))
      have hs6 := HG6.out.size
      have hb6 : Below w.heap.size w w6 := hb1.trans (HB6.out.mono (by omega))
      have HF6 : Hid (ForkC w6 (w.heap.size + 1 + 1) F i An cn As cs w.heap.size) := HF.out.keep (HG6.out.mono (by omega)) (HG6.out.block _ (by omega))
      have HR6 : Hid (w6.heap[w.heap.size + 1]? = some (.cells #[.int .i64 0, .slice none 0 0, .slice none 0 0] 110 (0, 0))) := (HG6.out.block _ (by omega)).trans HR.out
      have ef := (heap_cells3 HF6.out.hp).2
      have f0 := ef 0
      have f1 := ef 1
      have f2 := ef 2
      obtain ⟨d0, d1, d2⟩ := HF6.out.cells
      rw [HTT.out] at d0
      rw [HST.out.nl] at d1
      obtain ⟨nb, no, hAn, hnb, n0⟩ := HF6.out.n.at_ (k := o) (by rw [HST.out.nl]; omega)
      rw [HST.out.nv, HM.out] at n0
      rw [hAn] at d1
      obtain ⟨hCA, hFA⟩ := HC.out w6 hb6
      obtain ⟨p', tb, tf, Ap, cp, htp, hA2, htb, _, m1, hcp, hIp⟩ := hCA.ts.at_ htl
      rw [HST.out.tp] at htp
      injection htp with htp
      subst htp
      obtain ⟨ob, oo, hAp, hob, o0⟩ := hIp.at_ hxl
      rw [HST.out.ov] at o0
      rw [hAp] at m1
      have q1 := HN1.out w6 HB6.out
      rw [hA2] at q1
      obtain ⟨fb', fo', Bn, bn, Bs, bs, hA, _, r0, r1, r2, hbn, hBn, hbs, hBs⟩ := hFA.at_ hml
      injection hA with hA
      injection hA with e1 e2
      subst e1; subst e2
      have HF7 : Hid (ForkC (((w6.drew.setCell ⟨w.heap.size + 1 + 1, 0, none⟩ (.int .i64 (fk F m).test)).setCell ⟨w.heap.size + 1 + 1, 1, none⟩ (.slice Bn (fk F m).next.length bn)).setCell ⟨w.heap.size + 1 + 1, 2, none⟩ (.slice Bs (fk F m).set.length bs)) (w.heap.size + 1 + 1) F m Bn bn Bs bs w.heap.size) := by
        have hbl : Below w.heap.size w6 (((w6.drew.setCell ⟨w.heap.size + 1 + 1, 0, none⟩ (.int .i64 (fk F m).test)).setCell ⟨w.heap.size + 1 + 1, 1, none⟩ (.slice Bn (fk F m).next.length bn)).setCell ⟨w.heap.size + 1 + 1, 2, none⟩ (.slice Bs (fk F m).set.length bs)) := below_put3 ((Below.refl w.heap.size w6).drew) (by omega) _ _ _
        exact ⟨heap_set3 (w := w6.drew) HF6.out.hp _ _ _, hBn.keep hbl, hbs, hBs.keep hbl⟩
      have HO7 : Hid (OutI (((w6.drew.setCell ⟨w.heap.size + 1 + 1, 0, none⟩ (.int .i64 (fk F m).test)).setCell ⟨w.heap.size + 1 + 1, 1, none⟩ (.slice Bn (fk F m).next.length bn)).setCell ⟨w.heap.size + 1 + 1, 2, none⟩ (.slice Bs (fk F m).set.length bs)) (w.heap.size + 1 + 1 + 1) v6 (D ++ [(t : Int)])) := own_set (own_set (own_set (show OutI w6.drew (w.heap.size + 1 + 1 + 1) v6 (D ++ [(t : Int)]) from HO6.out) (a := ⟨w.heap.size + 1 + 1, 0, none⟩) (show w.heap.size + 1 + 1 < _ by omega) _) (a := ⟨w.heap.size + 1 + 1, 1, none⟩) (show w.heap.size + 1 + 1 < _ by omega) _) (a := ⟨w.heap.size + 1 + 1, 2, none⟩) (show w.heap.size + 1 + 1 < _ by omega) _
      have HR7 : Hid ((((w6.drew.setCell ⟨w.heap.size + 1 + 1, 0, none⟩ (.int .i64 (fk F m).test)).setCell ⟨w.heap.size + 1 + 1, 1, none⟩ (.slice Bn (fk F m).next.length bn)).setCell ⟨w.heap.size + 1 + 1, 2, none⟩ (.slice Bs (fk F m).set.length bs)).heap[w.heap.size + 1]? = some (.cells #[.int .i64 0, .slice none 0 0, .slice none 0 0] 110 (0, 0))) := (heap_put3 (w1 := w6.drew) (by omega) _ _ _).trans HR6.out
      have HB7 : Hid (Below (w.heap.size + 1) (w.alloc (.cells #[.slice A1 c.weights.length c1, .slice A2 c.tests.length c2] 36)) (((w6.drew.setCell ⟨w.heap.size + 1 + 1, 0, none⟩ (.int .i64 (fk F m).test)).setCell ⟨w.heap.size + 1 + 1, 1, none⟩ (.slice Bn (fk F m).next.length bn)).setCell ⟨w.heap.size + 1 + 1, 2, none⟩ (.slice Bs (fk F m).set.length bs))) := below_put3 HB6.out.drew (by omega) _ _ _
      have HSZ : Hid (w.heap.size + 1 + 1 + 1 ≤ (((w6.drew.setCell ⟨w.heap.size + 1 + 1, 0, none⟩ (.int .i64 (fk F m).test)).setCell ⟨w.heap.size + 1 + 1, 1, none⟩ (.slice Bn (fk F m).next.length bn)).setCell ⟨w.heap.size + 1 + 1, 2, none⟩ (.slice Bs (fk F m).set.length bs)).heap.size) := by
        show _ ≤ _
        simp
        omega
      have hxl' : (x : Int) < p.outs.length := by omega
      have hol' : (o : Int) < 4 := by omega
      have hml' : (m : Int) < F.length := by omega
      have htl' : (t : Int) < c.tests.length := by omega
      obtain ⟨Av6, cv6, hv6, hcv6, _⟩ := HO6.out.reads
      have hlv : (D ++ [(t : Int)]).length = D.length + 1 := by simp
      have HLV := Lib.hid hlv
      have HBIT : Hid ((S m).testBit x = true) := by show _ = _; rw [← HM.out]; exact HST.out.bit
      have HL4 : Hid (WalkR c F x m L2 j) := by show WalkR _ _ _ _ _ _; rw [← HM.out]; exact HL3.out
      clear ef HR HF HB HO HL HX hb6 hAn hCA hFA hA2 htb hIp hAp hBn hBs hbs hbn hcp hnb hob HR6 HF6 HB6 HO6 HG6
      refine wp_region_quiet_tail 17 (by kernel_rfl) (by kernel_rfl) ?_
      simp only [List.take_succ_cons, List.take_zero, List.drop_succ_cons, List.drop_zero]
      repeat (go_big_quiet_step (fail))
      refine wpQuiet_nil ?_
      go_wp2_with fail
      go_roundw
      case rel => exact ⟨m, D ++ [(t : Int)], L2, Bn, bn, Bs, bs, Av6, cv6, hml, by rw [HLV.out]; omega, hv6, HL4.out, HD2.out, HBIT.out, HO7.out, HF7.out, HR7.out, HB7.out, HSZ.out⟩
      case measure => rw [hv6]; show F.length - (D ++ [(t : Int)]).length < F.length - D.length; rw [HLV.out]; omega
end Go.Proofs.YtonpemikodajdaaDoor
