/- A computer in memory; walks: reset, change, try. -/
import Derived.Test.YtonpemikodajdaaDoorAc1
import Derived.Test.YtonpemikodajdaaDoorTail
import Derived.Deep.QuietTactic
import Derived.Deep.RegionHeld3
import Derived.Deep.Cut
namespace Go.Proofs.YtonpemikodajdaaDoor
open Go.RowKit

structure MComp where
  ses : Int
  unl : Bool
  seed : Int
  seeds : Int
  wrong : Int
  til : Int
  last : Int
def compCells (a : MAcc) (c : MComp) : Array Value := #[.int .i64 a.secret, .int .i64 a.tries, .int .i64 a.lock, .int .i64 a.idle, .int .i64 c.ses, .bool c.unl, .int .i64 c.seed, .int .i64 c.seeds, .int .i64 c.wrong, .int .i64 c.til, .int .i64 c.last]
def CompA (w : World) (cb : Nat) (a : MAcc) (c : MComp) : Prop := w.heap[cb]? = some (.cells (compCells a c) 128 (0, 0))
section
variable {w w' w'' : World} {cb : Nat} {a : MAcc} {c : MComp}
theorem CompA.lt (h : CompA w cb a c) : cb < w.heap.size := by
  rcases Nat.lt_or_ge cb w.heap.size with hlt | hge
  · exact hlt
  · have h : w.heap[cb]? = _ := h
    rw [Array.getElem?_eq_none hge] at h; cases h
theorem CompA.g (h : CompA w cb a c) (k : Nat) : w.cell? ⟨cb, k, none⟩ = (compCells a c)[k]? := cell_of_row w cb k _ 128 (0, 0) h
theorem CompA.fz (h : CompA w cb a c) (k : Nat) : w.frozen? ⟨cb, k, none⟩ = false := by
  have h : w.heap[cb]? = _ := h
  simp [World.frozen?, h]
theorem CompA.put (h : CompA w cb a c) (k : Nat) (v : Value) {c' : MComp} (he : (compCells a c).setIfInBounds k v = compCells a c') : CompA (w.setCell ⟨cb, k, none⟩ v) cb a c' := by
  unfold CompA
  rw [heap_setCell_same w cb k _ 128 v h, he]
theorem CompA.setSes (h : CompA w cb a c) (n : Int) : CompA (w.setCell ⟨cb, 4, none⟩ (.int .i64 n)) cb a { c with ses := n } := h.put 4 _ (by simp [compCells])
theorem CompA.setUnl (h : CompA w cb a c) (b : Bool) : CompA (w.setCell ⟨cb, 5, none⟩ (.bool b)) cb a { c with unl := b } := h.put 5 _ (by simp [compCells])
theorem CompA.setSeed (h : CompA w cb a c) (n : Int) : CompA (w.setCell ⟨cb, 6, none⟩ (.int .i64 n)) cb a { c with seed := n } := h.put 6 _ (by simp [compCells])
theorem CompA.setSeeds (h : CompA w cb a c) (n : Int) : CompA (w.setCell ⟨cb, 7, none⟩ (.int .i64 n)) cb a { c with seeds := n } := h.put 7 _ (by simp [compCells])
theorem CompA.setWrong (h : CompA w cb a c) (n : Int) : CompA (w.setCell ⟨cb, 8, none⟩ (.int .i64 n)) cb a { c with wrong := n } := h.put 8 _ (by simp [compCells])
theorem CompA.setTil (h : CompA w cb a c) (n : Int) : CompA (w.setCell ⟨cb, 9, none⟩ (.int .i64 n)) cb a { c with til := n } := h.put 9 _ (by simp [compCells])
theorem CompA.setLast (h : CompA w cb a c) (n : Int) : CompA (w.setCell ⟨cb, 10, none⟩ (.int .i64 n)) cb a { c with last := n } := h.put 10 _ (by simp [compCells])
theorem CompA.below (h : CompA w cb a c) {B : Nat} (hb : Below B w w') (hB : cb < B) : CompA w' cb a c := (hb.block cb hB).trans h
theorem CompA.far (h : CompA w cb a c) {p : Addr} (hp : cb ≠ p.block) (v : Value) : CompA (w.setCell p v) cb a c := (Below.heap_setCell w p v cb hp).trans h
theorem gb_refl (w : World) (row : Option Nat) : w.grownBy w row := ⟨rfl, rfl, rfl, Nat.le_refl _, fun _ _ _ => rfl⟩
theorem gb_set {row : Option Nat} (h : w.grownBy w' row) {p : Addr} (hp : row = some p.block ∨ w.heap.size ≤ p.block) (v : Value) : w.grownBy (w'.setCell p v) row :=
  ⟨h.os, h.tape, h.output, by simpa using h.size, fun k hk hne => (Below.heap_setCell w' p v k (fun e => by
    subst e
    rcases hp with hp | hp
    · exact hne hp.symm
    · omega)).trans (h.block k hk hne)⟩
theorem gb_put (h : w.grownBy w' (some cb)) (k : Nat) (v : Value) : w.grownBy (w'.setCell ⟨cb, k, none⟩ v) (some cb) := gb_set h (.inl rfl) v
theorem gb_below {row : Option Nat} (h : w.grownBy w' row) {B : Nat} (hb : Below B w' w'') (hB : w.heap.size ≤ B) : w.grownBy w'' row :=
  ⟨hb.os.trans h.os, hb.tape.trans h.tape, hb.output.trans h.output, Nat.le_trans h.size hb.size, fun k hk hne => (hb.block k (by omega)).trans (h.block k hk hne)⟩
theorem gb_trans {row : Option Nat} (h : w.grownBy w' row) (h' : w'.grownBy w'' row) : w.grownBy w'' row :=
  ⟨h'.os.trans h.os, h'.tape.trans h.tape, h'.output.trans h.output, Nat.le_trans h.size h'.size, fun k hk hne => (h'.block k (Nat.lt_of_lt_of_le hk h.size) hne).trans (h.block k hk hne)⟩
end
def resetS (c : MComp) : MComp := { c with ses := 0, unl := false, seed := -1 }
def changeS (c : MComp) (v : Int) : MComp × Int :=
  if v = 0 then (resetS c, 0) else if v = 1 then ({ c with ses := 1, seed := -1 }, 0) else if v = 2 then (if c.ses = 0 then (c, 4) else if c.unl = false then (c, 1) else ({ c with ses := 2 }, 0)) else (c, 6)
def tryS (a : MAcc) (c : MComp) (r : MReq) : MComp × Int :=
  if c.seed < 0 then (c, 5) else if keyS a c.seed = r.val then ({ c with seed := -1, unl := true, wrong := 0 }, 0)
  else if c.wrong + 1 = a.tries then ({ c with seed := -1, wrong := 0, til := r.at_ + a.lock }, 2) else ({ c with seed := -1, wrong := c.wrong + 1 }, 2)
theorem reset_any (a : MAcc) (c : MComp) (cb : Nat) (w : World) (h : CompA w cb a c) :
    Calls Tryd.prog 110 #[.pointer (some ⟨cb, 0, none⟩)] w fun e w' => e = .returned (.tuple #[]) ∧ CompA w' cb a (resetS c) ∧ w.grownBy w' (some cb) := by
  have g4 := h.g 4
  have g5 := h.g 5
  have g6 := h.g 6
  simp [compCells] at g4 g5 g6
  have f4 := h.fz 4
  have f5 := h.fz 5
  have f6 := h.fz 6
  have H := Lib.hid h
  clear h
  go_enter Tryd.func110, Tryd.ntmps110
  go_wp2_with fail
  go_end0
  exact ⟨rfl, ((H.out.setSes 0).setUnl false).setSeed (-1), gb_put (gb_put (gb_put (gb_refl _ _) _ _) _ _) _ _⟩
set_option maxHeartbeats 1000000 in
theorem change_any (a : MAcc) (c : MComp) (v : Int) (cb : Nat) (w : World) (h : CompA w cb a c) {r : MComp × Int} (hr : changeS c v = r) :
    Calls Tryd.prog 111 #[.pointer (some ⟨cb, 0, none⟩), .int .i64 v] w fun e w' => e = .returned (.int .i64 r.2) ∧ CompA w' cb a r.1 ∧ w.grownBy w' (some cb) := by
  have g4 := h.g 4
  have g5 := h.g 5
  have g6 := h.g 6
  simp [compCells] at g4 g5 g6
  have f4 := h.fz 4
  have f5 := h.fz 5
  have f6 := h.fz 6
  have HC := Lib.hid (reset_any a c cb w h)
  have H := Lib.hid h
  have HR := Lib.hid hr
  clear h hr
  by_cases h0 : v = 0
  · subst h0
    go_enter Tryd.func111, Tryd.ntmps111
    go_wp2_with (go_at_call 110; refine HC.out.mono ?_; rintro e w2 ⟨rfl, h2, hg2⟩)
    go_ret
    have e0 := HR.out
    subst e0
    exact ⟨rfl, h2, hg2⟩
  by_cases h1 : v = 1
  · subst h1
    go_enter Tryd.func111, Tryd.ntmps111
    go_wp2_with fail
    go_ret
    have e0 := HR.out
    subst e0
    exact ⟨rfl, (H.out.setSes 1).setSeed (-1), gb_put (gb_put (gb_refl _ _) _ _) _ _⟩
  by_cases h2 : v = 2
  · subst h2
    by_cases hs : c.ses = 0
    · have e0 : r = (c, 4) := by rw [← HR.out]; simp [changeS, hs]
      subst e0
      rw [hs] at g4
      clear hs
      go_enter Tryd.func111, Tryd.ntmps111
      go_wp2_with fail
      go_ret
      exact ⟨rfl, H.out, gb_refl _ _⟩
    · rcases hu : c.unl
      · have e0 : r = (c, 1) := by rw [← HR.out]; simp [changeS, hs, hu]
        subst e0
        rw [hu] at g5
        clear hu
        go_enter Tryd.func111, Tryd.ntmps111
        go_wp2_with fail
        go_ret
        exact ⟨rfl, H.out, gb_refl _ _⟩
      · have e0 : r = ({ c with ses := 2 }, 0) := by rw [← HR.out]; simp [changeS, hs, hu]
        subst e0
        rw [hu] at g5
        clear hu
        go_enter Tryd.func111, Tryd.ntmps111
        go_wp2_with fail
        go_ret
        exact ⟨rfl, H.out.setSes 2, gb_put (gb_refl _ _) _ _⟩
  · have e0 : r = (c, 6) := by rw [← HR.out]; simp [changeS, h0, h1, h2]
    subst e0
    go_enter Tryd.func111, Tryd.ntmps111
    go_wp2_with fail
    go_ret
    exact ⟨rfl, H.out, gb_refl _ _⟩
theorem far_set {W : World} {p q : Addr} {x v : Value} (h : W.cell? q = some x) (hne : p ≠ q) : (W.setCell p v).cell? q = some x := (World.cell?_setCell_other _ _ _ _ hne).trans h
theorem far_setd {W : World} {p q : Addr} {x v : Value} (h : W.cell? q = some x) (hne : p ≠ q) : (W.setCell p v).drew.cell? q = some x := (World.cell?_setCell_other _ _ _ _ hne).trans h
def reqV (r : MReq) : Value := .agg #[.int .i64 r.at_, .int .i64 r.serv, .int .i64 r.val]
set_option maxRecDepth 100000 in
set_option maxHeartbeats 4000000 in
theorem try_any (a : MAcc) (c : MComp) (r : MReq) (cb : Nat) (w : World) (h : CompA w cb a c) (ha : accB a = true) (hs : c.seed ≤ 65535) (hw : 0 ≤ c.wrong ∧ c.wrong ≤ 1000000) (ht : 0 ≤ r.at_ ∧ r.at_ ≤ 1000000) {x : MComp × Int} (hx : tryS a c r = x) :
    Calls Tryd.prog 112 #[.pointer (some ⟨cb, 0, none⟩), reqV r] w fun e w' => e = .returned (.int .i64 x.2) ∧ CompA w' cb a x.1 ∧ w.grownBy w' (some cb) := by
  unfold reqV
  have hab := acc_bounds ha
  have hb1 : Below w.heap.size w (w.alloc (.cells #[.int .i64 r.at_, .int .i64 r.serv, .int .i64 r.val] 80)) := (Below.refl _ _).alloc (Nat.le_refl _) _
  have h1 := h.below hb1 h.lt
  have hlt := h.lt
  have HG1 : Hid (w.grownBy (w.alloc (.cells #[.int .i64 r.at_, .int .i64 r.serv, .int .i64 r.val] 80)) (some cb)) := gb_below (gb_refl _ _) hb1 (Nat.le_refl _)
  have n0 := newcell w #[.int .i64 r.at_, .int .i64 r.serv, .int .i64 r.val] 80 0
  have n2 := newcell w #[.int .i64 r.at_, .int .i64 r.serv, .int .i64 r.val] 80 2
  simp only [List.getElem?_toArray, List.getElem?_cons_succ, List.getElem?_cons_zero] at n0 n2
  have g0 := h1.g 0
  have g1 := h1.g 1
  have g2 := h1.g 2
  have g3 := h1.g 3
  have g6 := h1.g 6
  simp [compCells] at g0 g1 g2 g3 g6
  have H1 := Lib.hid h1
  have HX := Lib.hid hx
  clear h h1 hx hb1
  by_cases h0 : c.seed < 0
  · have e0 : x = (c, 5) := by rw [← HX.out]; simp [tryS, h0]
    subst e0
    go_enter Tryd.func112, Tryd.ntmps112
    go_wp2_with fail
    go_ret
    exact ⟨rfl, H1.out, HG1.out⟩
  · have hs0 : 0 ≤ c.seed ∧ c.seed ≤ 65535 := by omega
    have hS0 : ((w.alloc (.cells #[.int .i64 r.at_, .int .i64 r.serv, .int .i64 r.val] 80)).drew.cell? ⟨cb, 0, none⟩ = some (.int .i64 a.secret) ∧ (w.alloc (.cells #[.int .i64 r.at_, .int .i64 r.serv, .int .i64 r.val] 80)).drew.cell? ⟨cb, 1, none⟩ = some (.int .i64 a.tries) ∧ (w.alloc (.cells #[.int .i64 r.at_, .int .i64 r.serv, .int .i64 r.val] 80)).drew.cell? ⟨cb, 2, none⟩ = some (.int .i64 a.lock) ∧ (w.alloc (.cells #[.int .i64 r.at_, .int .i64 r.serv, .int .i64 r.val] 80)).drew.cell? ⟨cb, 3, none⟩ = some (.int .i64 a.idle)) ∧
        (w.alloc (.cells #[.int .i64 r.at_, .int .i64 r.serv, .int .i64 r.val] 80)).drew.cell? ⟨cb, 6, none⟩ = some (.int .i64 c.seed) ∧ (w.alloc (.cells #[.int .i64 r.at_, .int .i64 r.serv, .int .i64 r.val] 80)).drew.cell? ⟨w.heap.size, 2, none⟩ = some (.int .i64 r.val) := ⟨⟨g0, g1, g2, g3⟩, g6, n2⟩
    obtain ⟨ky, hky⟩ : ∃ k, keyS a c.seed = k := ⟨_, rfl⟩
    have HK := Lib.hid hky
    have HC : Hid (∀ W : World, Calls Tryd.prog 84 #[.agg #[.int .i64 a.secret, .int .i64 a.tries, .int .i64 a.lock, .int .i64 a.idle], .int .i64 c.seed] W fun e w' => e = .returned (.int .i64 ky) ∧ Below W.heap.size W w') := fun W => hky ▸ key_any a c.seed W hab.1 hs0
    have HS0 := Lib.hid hS0
    clear hS0 hky
    go_enter Tryd.func112, Tryd.ntmps112
    go_upto_region 3 with fail
    clear g0 g1 g2 g3 g6 n2
    go_region_held3 (fun w' => (w'.cell? ⟨cb, 0, none⟩ = some (.int .i64 a.secret) ∧ w'.cell? ⟨cb, 1, none⟩ = some (.int .i64 a.tries) ∧ w'.cell? ⟨cb, 2, none⟩ = some (.int .i64 a.lock) ∧ w'.cell? ⟨cb, 3, none⟩ = some (.int .i64 a.idle)) ∧ w'.cell? ⟨cb, 6, none⟩ = some (.int .i64 c.seed) ∧ w'.cell? ⟨w.heap.size, 2, none⟩ = some (.int .i64 r.val)) (first | exact HS0.out | exact hS2 | assumption) ((go_at_call 84; refine (HC.out _).mono ?_; rintro e w2 ⟨rfl, hb2⟩; have hq : ∀ b k, b < w.heap.size + 1 → w2.cell? ⟨b, k, none⟩ = (w.alloc (.cells #[.int .i64 r.at_, .int .i64 r.serv, .int .i64 r.val] 80)).drew.cell? ⟨b, k, none⟩ := fun b k hb => bcell hb2 b k (by show b < (w.alloc _).heap.size; simp; omega); have HQ := Lib.hid hq; have HB2 := Lib.hid hb2; clear hq hb2; have hS2 := And.intro (And.intro ((HQ.out cb 0 (by omega)).trans HS0.out.1.1) (And.intro ((HQ.out cb 1 (by omega)).trans HS0.out.1.2.1) (And.intro ((HQ.out cb 2 (by omega)).trans HS0.out.1.2.2.1) ((HQ.out cb 3 (by omega)).trans HS0.out.1.2.2.2)))) (And.intro ((HQ.out cb 6 (by omega)).trans HS0.out.2.1) ((HQ.out w.heap.size 2 (by omega)).trans HS0.out.2.2))))
    have hd : Below (w.heap.size + 1) (w.alloc (.cells #[.int .i64 r.at_, .int .i64 r.serv, .int .i64 r.val] 80)) w2 := by
      have h3 := (Below.refl (w.alloc (.cells #[.int .i64 r.at_, .int .i64 r.serv, .int .i64 r.val] 80)).heap.size (w.alloc (.cells #[.int .i64 r.at_, .int .i64 r.serv, .int .i64 r.val] 80))).drew.trans HB2.out
      rw [show (w.alloc (.cells #[.int .i64 r.at_, .int .i64 r.serv, .int .i64 r.val] 80)).heap.size = w.heap.size + 1 by simp] at h3
      exact h3
    have h2 := H1.out.below hd (by omega)
    have HG2 : Hid (w.grownBy w2 (some cb)) := gb_below HG1.out hd (by omega)
    have g8 := h2.g 8
    have g9 := h2.g 9
    have g5 := h2.g 5
    simp [compCells] at g5 g8 g9
    have q6 := hS2.2.1
    have q1 := hS2.1.2.1
    have q2 := hS2.1.2.2.1
    have f5 := h2.fz 5
    have f6 := h2.fz 6
    have f8 := h2.fz 8
    have f9 := h2.fz 9
    have m0 := (bcell hd w.heap.size 0 (by omega)).trans n0
    have H2 := Lib.hid h2
    clear h2 hd hS2 n0
    rcases hkb : (ky == r.val)
    · have hne : keyS a c.seed ≠ r.val := by rw [HK.out]; simpa using hkb
      by_cases hw1 : c.wrong + 1 = a.tries
      · have e0 : x = ({ c with seed := -1, wrong := 0, til := r.at_ + a.lock }, 2) := by rw [← HX.out]; simp [tryS, h0, hne, hw1]
        subst e0
        have e1 : IntKind.i64.wrap (c.wrong + 1) = c.wrong + 1 := IntWalk.i64_in _ (by omega)
        have e2 : IntKind.i64.wrap (r.at_ + a.lock) = r.at_ + a.lock := IntWalk.i64_in _ (by omega)
        have e3 : (c.wrong + 1 == a.tries) = true := by simpa using hw1
        clear hne hw1 hkb h0
        go_wp2_with fail
        go_quiet (fail)
        go_wp2_with fail
        have k2 : (((w2.setCell ⟨cb, 6, none⟩ (.int .i64 (-1))).setCell ⟨cb, 8, none⟩ (.int .i64 (c.wrong + 1))).drewN nq).cell? ⟨cb, 2, none⟩ = some (.int .i64 a.lock) := (World.cell?_setCell_other _ _ _ _ (by simp)).trans ((World.cell?_setCell_other _ _ _ _ (by simp)).trans q2)
        have k0 : (((w2.setCell ⟨cb, 6, none⟩ (.int .i64 (-1))).setCell ⟨cb, 8, none⟩ (.int .i64 (c.wrong + 1))).drewN nq).cell? ⟨w.heap.size, 0, none⟩ = some (.int .i64 r.at_) := (World.cell?_setCell_other _ _ _ _ (fun e => by injection e; omega)).trans ((World.cell?_setCell_other _ _ _ _ (fun e => by injection e; omega)).trans m0)
        have hQ : CompA (((w2.setCell ⟨cb, 6, none⟩ (.int .i64 (-1))).setCell ⟨cb, 8, none⟩ (.int .i64 (c.wrong + 1))).drewN nq) cb a { c with seed := -1, wrong := c.wrong + 1 } := (H2.out.setSeed (-1)).setWrong (c.wrong + 1)
        have hGQ : w.grownBy (((w2.setCell ⟨cb, 6, none⟩ (.int .i64 (-1))).setCell ⟨cb, 8, none⟩ (.int .i64 (c.wrong + 1))).drewN nq) (some cb) := by
          have h := gb_put (gb_put HG2.out 6 (.int .i64 (-1))) 8 (.int .i64 (c.wrong + 1))
          exact ⟨h.os, h.tape, h.output, h.size, h.block⟩
        have HQ2 := Lib.hid hQ
        have HGQ := Lib.hid hGQ
        clear hQ hGQ q6 q1 q2 f5 f6 f8 f9 m0 g5 g8 g9
        generalize ((w2.setCell ⟨cb, 6, none⟩ (.int .i64 (-1))).setCell ⟨cb, 8, none⟩ (.int .i64 (c.wrong + 1))).drewN nq = W5 at *
        have hne0 : cb ≠ w.heap.size := by omega
        have k9 : W5.cell? ⟨cb, 9, none⟩ = some (.int .i64 c.til) := HQ2.out.g 9
        have k8 : W5.cell? ⟨cb, 8, none⟩ = some (.int .i64 (c.wrong + 1)) := HQ2.out.g 8
        have y8 := HQ2.out.fz 8
        have y9 := HQ2.out.fz 9
        have hA1 : (⟨cb, 9, none⟩ : Addr) ≠ ⟨cb, 2, none⟩ := by simp
        have hA2 : (⟨cb, 9, none⟩ : Addr) ≠ ⟨w.heap.size, 0, none⟩ := fun e => by injection e; omega
        have hA3 : (⟨cb, 8, none⟩ : Addr) ≠ ⟨cb, 2, none⟩ := by simp
        have hA4 : (⟨cb, 8, none⟩ : Addr) ≠ ⟨w.heap.size, 0, none⟩ := fun e => by injection e; omega
        have tst : (W5.setCell ⟨cb, 9, none⟩ (.int .i64 (r.at_ + a.lock))).drew.cell? ⟨cb, 2, none⟩ = some (.int .i64 a.lock) := far_setd k2 hA1
        have tst2 : (W5.setCell ⟨cb, 9, none⟩ (.int .i64 (r.at_ + a.lock))).drew.cell? ⟨w.heap.size, 0, none⟩ = some (.int .i64 r.at_) := far_setd k0 hA2
        have tst3 : ((W5.setCell ⟨cb, 9, none⟩ (.int .i64 (r.at_ + a.lock))).setCell ⟨cb, 8, none⟩ (.int .i64 0)).drew.cell? ⟨cb, 2, none⟩ = some (.int .i64 a.lock) := far_setd (far_set k2 hA1) hA3
        have tst4 : ((W5.setCell ⟨cb, 9, none⟩ (.int .i64 (r.at_ + a.lock))).setCell ⟨cb, 8, none⟩ (.int .i64 0)).drew.cell? ⟨w.heap.size, 0, none⟩ = some (.int .i64 r.at_) := far_setd (far_set k0 hA2) hA4
        go_region_held3 (fun w' => w'.cell? ⟨cb, 2, none⟩ = some (.int .i64 a.lock) ∧ w'.cell? ⟨w.heap.size, 0, none⟩ = some (.int .i64 r.at_)) (first | exact ⟨tst, tst2⟩ | exact ⟨tst3, tst4⟩ | go_keep) (fail)
        all_goals
          go_wp2_with fail
          go_ret
          have hZ : CompA ((W5.setCell ⟨cb, 9, none⟩ (.int .i64 (r.at_ + a.lock))).setCell ⟨cb, 8, none⟩ (.int .i64 0)).drew cb a { c with seed := -1, wrong := 0, til := r.at_ + a.lock } := (HQ2.out.setTil (r.at_ + a.lock)).setWrong 0
          have h := gb_put (gb_put HGQ.out 9 (.int .i64 (r.at_ + a.lock))) 8 (.int .i64 0)
          exact ⟨rfl, hZ, ⟨h.os, h.tape, h.output, h.size, h.block⟩⟩
      · have e0 : x = ({ c with seed := -1, wrong := c.wrong + 1 }, 2) := by rw [← HX.out]; simp [tryS, h0, hne, hw1]
        subst e0
        have e1 : IntKind.i64.wrap (c.wrong + 1) = c.wrong + 1 := IntWalk.i64_in _ (by omega)
        have e3 : (c.wrong + 1 == a.tries) = false := by simpa using hw1
        clear hne hw1 hkb h0
        go_wp2_with fail
        go_quiet (fail)
        go_wp2_with fail
        go_ret
        have hQ : CompA (((w2.setCell ⟨cb, 6, none⟩ (.int .i64 (-1))).setCell ⟨cb, 8, none⟩ (.int .i64 (c.wrong + 1))).drewN nq) cb a { c with seed := -1, wrong := c.wrong + 1 } := (H2.out.setSeed (-1)).setWrong (c.wrong + 1)
        have h := gb_put (gb_put HG2.out 6 (.int .i64 (-1))) 8 (.int .i64 (c.wrong + 1))
        exact ⟨rfl, hQ, ⟨h.os, h.tape, h.output, h.size, h.block⟩⟩
    · have heq : keyS a c.seed = r.val := by rw [HK.out]; simpa using hkb
      have e0 : x = ({ c with seed := -1, unl := true, wrong := 0 }, 0) := by rw [← HX.out]; simp [tryS, h0, heq]
      subst e0
      clear heq hkb h0
      go_wp2_with fail
      go_ret
      exact ⟨rfl, ((H2.out.setSeed (-1)).setUnl true).setWrong 0, gb_put (gb_put (gb_put HG2.out _ _) _ _) _ _⟩
end Go.Proofs.YtonpemikodajdaaDoor
