/- Walk: the law DiagnoseMore. -/
import Derived.Test.YtonpemikodajdaaDoorCn
import Derived.Deep.RegionHeld3
import Derived.Deep.DeepCutAuto
namespace Go.Proofs.YtonpemikodajdaaDoor
open Go.RowKit

theorem own_apart {v : Value} {B N : Nat} (h : ∀ k, v.ownBlock = some k → B ≤ k ∧ k < N) : ∀ k, (N ≤ k ∨ k < B) → some k ≠ v.ownBlock := fun k hk e => by have := h k e.symm; omega
/-- one of the first k rows contains all of y -/
def insTo (X : List (List Int)) (y : List Int) : Nat → Bool
  | 0 => false
  | k + 1 => insTo X y k || contB (X.getD k []) y
theorem insTo_succ {X : List (List Int)} {y : List Int} {k : Nat} {x : List Int} (h : X[k]? = some x) : insTo X y (k + 1) = (insTo X y k || contB x y) := by
  rw [insTo, List.getD_eq_getElem?_getD, h]
  rfl
theorem insTo_yes {X : List (List Int)} {y : List Int} {j : Nat} (h : contB (X.getD j []) y = true) : ∀ {k : Nat}, j < k → insTo X y k = true
  | k + 1, hj => by
    rw [insTo]
    by_cases e : j = k
    · subst e; rw [h, Bool.or_true]
    · rw [insTo_yes h (k := k) (by omega), Bool.true_or]
theorem contB_bits {m n : Nat} (h : ∀ b, n.testBit b = true → m.testBit b = true) : contB (bitsI m) (bitsI n) = true := by
  unfold contB
  rw [List.all_eq_true]
  intro y hy
  unfold bitsI at hy
  obtain ⟨b, hb, rfl⟩ := List.mem_map.1 hy
  have hb' := mem_bitsOf.1 hb
  show hasI (bitsI m) (b : Int) = true
  rw [hasI_bits hb'.1]
  exact h b hb'.2
theorem heap_set2 {w : World} {g T : Nat} {a b : Value} (h : w.heap[g]? = some (.cells #[a, b] T (0, 0))) (a' b' : Value) : ((w.setCell ⟨g, 0, none⟩ a').setCell ⟨g, 1, none⟩ b').heap[g]? = some (.cells #[a', b'] T (0, 0)) := by
  rw [heap_setCell_same _ g 1 _ T _ (heap_setCell_same w g 0 _ T _ h)]
  simp
theorem cells2 {w : World} {g T : Nat} {a b : Value} (h : w.heap[g]? = some (.cells #[a, b] T (0, 0))) :
    (w.cell? ⟨g, 0, none⟩ = some a ∧ w.cell? ⟨g, 1, none⟩ = some b) ∧ ∀ o, w.frozen? ⟨g, o, none⟩ = false :=
  ⟨⟨by rw [cell_of_row w g 0 _ T (0, 0) h]; rfl, by rw [cell_of_row w g 1 _ T (0, 0) h]; rfl⟩, fun o => by simp [World.frozen?, h]⟩
set_option maxRecDepth 100000 in
set_option maxHeartbeats 8000000 in
theorem lawMore_main (A1 A2 : Option Addr) (c1 c2 : Nat) (c : MCase) (Ap : Option Addr) (cp : Nat) (p : MProbe) (w : World) (h : CaseA w w.heap.size A1 A2 c) (hp : IntsA w w.heap.size Ap p.outs) (hpc : p.outs.length ≤ cp) (hT : TabW w) (hB : c.tests.length * 32 ≤ 140737488351232) (hbig : bigB c = false) :
    Calls Tryd.prog 6 #[.agg #[.slice A1 c.weights.length c1, .slice A2 c.tests.length c2], .agg #[.int .i64 p.cost, .slice Ap p.outs.length cp]] w fun e w' => e = .returned (.bool true) ∧ Below w.heap.size w w' := by
  obtain ⟨W2, hW2⟩ : ∃ W2, (w.alloc (.cells #[.slice A1 c.weights.length c1, .slice A2 c.tests.length c2] 36)).alloc (.cells #[.int .i64 p.cost, .slice Ap p.outs.length cp] 50) = W2 := ⟨_, rfl⟩
  have hb2 : Below w.heap.size w W2 := by rw [← hW2]; exact ((Below.refl _ _).alloc (Nat.le_refl _) _).alloc (by simp) _
  have hsz : W2.heap.size = w.heap.size + 2 := by rw [← hW2]; simp
  have n0 : W2.cell? ⟨w.heap.size, 0, none⟩ = some (.slice A1 c.weights.length c1) := by rw [← hW2, acell _ _ _ _ (by simp), newcell]; rfl
  have n1 : W2.cell? ⟨w.heap.size, 1, none⟩ = some (.slice A2 c.tests.length c2) := by rw [← hW2, acell _ _ _ _ (by simp), newcell]; rfl
  have m0 : W2.cell? ⟨w.heap.size + 1, 0, none⟩ = some (.int .i64 p.cost) := by rw [← hW2, newcell' (by simp)]; rfl
  have m1 : W2.cell? ⟨w.heap.size + 1, 1, none⟩ = some (.slice Ap p.outs.length cp) := by rw [← hW2, newcell' (by simp)]; rfl
  have HC : Hid (∀ wx, Below (w.heap.size + 2) W2 wx → CaseA wx w.heap.size A1 A2 c ∧ TabW wx ∧ IntsA wx w.heap.size Ap p.outs) := fun wx hb => by
    have hbw := hb2.trans (hb.mono (by omega))
    exact ⟨h.keep hbw, hT.keep hbw, hp.keep hbw⟩
  have HK : Hid (∀ wx, Below (w.heap.size + 2) W2 wx → wx.cell? ⟨w.heap.size, 0, none⟩ = some (.slice A1 c.weights.length c1) ∧ wx.cell? ⟨w.heap.size, 1, none⟩ = some (.slice A2 c.tests.length c2) ∧ wx.cell? ⟨w.heap.size + 1, 0, none⟩ = some (.int .i64 p.cost) ∧ wx.cell? ⟨w.heap.size + 1, 1, none⟩ = some (.slice Ap p.outs.length cp)) := fun wx hb => ⟨(bcell hb _ _ (by omega)).trans n0, (bcell hb _ _ (by omega)).trans n1, (bcell hb _ _ (by omega)).trans m0, (bcell hb _ _ (by omega)).trans m1⟩
  have H19 : Hid (Calls Tryd.prog 19 #[.agg #[.slice A1 c.weights.length c1, .slice A2 c.tests.length c2]] W2 fun e w' => e = .returned (.bool false) ∧ Below W2.heap.size W2 w') := big_any _ _ _ _ _ _ hbig
  have hml := h.ln
  clear h hp hT hbig m0 m1
  go_enter Tryd.func6, Tryd.ntmps6
  go_upto_region 1 with fail
  have HB0 : Hid (Below w.heap.size w W2) := hb2
  clear hW2 hb2
  go_upto_region 3 with (go_at_call 19; (with_reducible refine H19.out.mono ?_); rintro e w3 ⟨rfl, hb3⟩; have HB3 : Hid (Below (w.heap.size + 2) W2 w3) := hb3.mono (Nat.le_of_eq hsz.symm); obtain ⟨p0, p1, e0, e1⟩ := HK.out w3 HB3.out; clear hb3)
  have hs3 := HB3.out.size
  rw [hsz] at hs3
  have HPT : Hid (∀ wx, Below (w.heap.size + 2) W2 wx → PrbA wx w.heap.size A2 c.tests) := fun wx hb => (HC.out wx hb).1.ts.prb
  go_cut [5] (fun v wx => ∃ g A' cap', v = .pointer (some ⟨g, 0, none⟩) ∧ g < wx.heap.size ∧ w.heap.size + 2 ≤ g ∧ Hid (wx.cell? ⟨g, 0, none⟩ = some (.slice A1 c.weights.length c1) ∧ wx.cell? ⟨g, 1, none⟩ = some (.slice A' (c.tests.length + 1) cap')) ∧ Hid (ProbesA wx wx.heap.size A' (c.tests ++ [p])) ∧ Hid (Below (w.heap.size + 2) W2 wx))
  case first =>
    have hk0 : Hid (∀ wx, Below w3.heap.size w3 wx → wx.cell? ⟨w.heap.size, 0, none⟩ = some (.slice A1 c.weights.length c1) ∧ wx.cell? ⟨w.heap.size, 1, none⟩ = some (.slice A2 c.tests.length c2) ∧ wx.cell? ⟨w.heap.size + 1, 0, none⟩ = some (.int .i64 p.cost) ∧ wx.cell? ⟨w.heap.size + 1, 1, none⟩ = some (.slice Ap p.outs.length cp)) := fun wx hb => HK.out wx (HB3.out.trans (hb.mono hs3))
    go_region_held3 (fun wx => wx.cell? ⟨w.heap.size, 0, none⟩ = some (.slice A1 c.weights.length c1) ∧ wx.cell? ⟨w.heap.size, 1, none⟩ = some (.slice A2 c.tests.length c2) ∧ wx.cell? ⟨w.heap.size + 1, 0, none⟩ = some (.int .i64 p.cost) ∧ wx.cell? ⟨w.heap.size + 1, 1, none⟩ = some (.slice Ap p.outs.length cp)) (exact hk0.out _ (by repeat' (first | exact hB6 | exact hB4 | exact Below.refl _ _ | refine Below.drew ?_ | refine Below.alloc ?_ (by first | (simp; done) | (simp; omega) | (have := hB4.size; simp at this ⊢; omega) | (have := hB6.size; simp at this ⊢; omega)) _ | refine Below.setCell ?_ (by first | omega | (simp; done) | (simp; omega) | fail) _))) ((first | (refine step_app_probes w3.drew (by rfl) _ _ (by rfl) (w3.heap.size + 0) w.heap.size _ [] (by rfl) (OutP.nil _ _ _) A2 c.tests.length c2 c.tests (by rfl) (by rfl) (HPT.out _ (HB3.out.trans (Below.mono (Below.refl w3.heap.size w3).drew hs3))) (by simp; omega) (by simp) (by omega) ?_; intro v4 w4 hO4 hg4 _; have hB4 : Below w3.heap.size w3 w4 := Below.grown (Below.refl w3.heap.size w3).drew hg4 (by first | omega | (simp; done) | (simp; omega) | fail) (fun k hk => by cases hk); have hz4 := hg4.size; rw [show (w3.drew : World).heap.size = w3.heap.size + 0 by simp] at hz4; have HVV := Lib.hid (own_block_lt hO4.choose_spec.1); have HNV := Lib.hid (own_apart HVV.out); obtain ⟨A4, cap4, hv4, _⟩ := hO4.lenV; rw [List.nil_append] at hv4; subst hv4; have HO4 := Lib.hid hO4; clear hO4 hg4) | (refine step_app_probes (w3.drew.alloc (.cells #[.int .i64 p.cost, .slice Ap p.outs.length cp] 50)) (by rfl) _ _ (by rfl) (w3.heap.size + 1) w.heap.size _ [] (by rfl) (OutP.nil _ _ _) A2 c.tests.length c2 c.tests (by rfl) (by rfl) (HPT.out _ (HB3.out.trans (Below.mono ((Below.refl w3.heap.size w3).drew.alloc (Nat.le_refl _) _) hs3))) (by simp; omega) (by simp) (by omega) ?_; intro v4 w4 hO4 hg4 _; have hB4 : Below w3.heap.size w3 w4 := Below.grown ((Below.refl w3.heap.size w3).drew.alloc (Nat.le_refl _) _) hg4 (by first | omega | (simp; done) | (simp; omega) | fail) (fun k hk => by cases hk); have hz4 := hg4.size; rw [show ((w3.drew.alloc (.cells #[.int .i64 p.cost, .slice Ap p.outs.length cp] 50)) : World).heap.size = w3.heap.size + 1 by simp] at hz4; have HP4 : Hid (w4.heap[w3.heap.size]? = some (.cells #[.int .i64 p.cost, .slice Ap p.outs.length cp] 50)) := (hg4.block (w3.heap.size) (by first | omega | (simp; done) | (simp; omega) | fail) (fun e => by cases e)).trans (heap_new (w := w3.drew) rfl); have HVV := Lib.hid (own_block_lt hO4.choose_spec.1); have HNV := Lib.hid (own_apart HVV.out); obtain ⟨A4, cap4, hv4, _⟩ := hO4.lenV; rw [List.nil_append] at hv4; subst hv4; have HO4 := Lib.hid hO4; clear hO4 hg4) | (refine step_app_probes (w3.drew.alloc (.cells #[.slice none 0 0, .slice none 0 0] 36)) (by rfl) _ _ (by rfl) (w3.heap.size + 1) w.heap.size _ [] (by rfl) (OutP.nil _ _ _) A2 c.tests.length c2 c.tests (by rfl) (by rfl) (HPT.out _ (HB3.out.trans (Below.mono ((Below.refl w3.heap.size w3).drew.alloc (Nat.le_refl _) _) hs3))) (by simp; omega) (by simp) (by omega) ?_; intro v4 w4 hO4 hg4 _; have hB4 : Below w3.heap.size w3 w4 := Below.grown ((Below.refl w3.heap.size w3).drew.alloc (Nat.le_refl _) _) hg4 (by first | omega | (simp; done) | (simp; omega) | fail) (fun k hk => by cases hk); have hz4 := hg4.size; rw [show ((w3.drew.alloc (.cells #[.slice none 0 0, .slice none 0 0] 36)) : World).heap.size = w3.heap.size + 1 by simp] at hz4; have HF4 : Hid (w4.heap[w3.heap.size]? = some (.cells #[.slice none 0 0, .slice none 0 0] 36)) := (hg4.block (w3.heap.size) (by first | omega | (simp; done) | (simp; omega) | fail) (fun e => by cases e)).trans (heap_new (w := w3.drew) rfl); have HVV := Lib.hid (own_block_lt hO4.choose_spec.1); have HNV := Lib.hid (own_apart HVV.out); obtain ⟨A4, cap4, hv4, _⟩ := hO4.lenV; rw [List.nil_append] at hv4; subst hv4; have HO4 := Lib.hid hO4; clear hO4 hg4) | (refine step_app_probes ((w3.drew.alloc (.cells #[.int .i64 p.cost, .slice Ap p.outs.length cp] 50)).alloc (.cells #[.slice none 0 0, .slice none 0 0] 36)) (by rfl) _ _ (by rfl) (w3.heap.size + 2) w.heap.size _ [] (by rfl) (OutP.nil _ _ _) A2 c.tests.length c2 c.tests (by rfl) (by rfl) (HPT.out _ (HB3.out.trans (Below.mono (((Below.refl w3.heap.size w3).drew.alloc (Nat.le_refl _) _).alloc (by simp) _) hs3))) (by simp; omega) (by simp) (by omega) ?_; intro v4 w4 hO4 hg4 _; have hB4 : Below w3.heap.size w3 w4 := Below.grown (((Below.refl w3.heap.size w3).drew.alloc (Nat.le_refl _) _).alloc (by simp) _) hg4 (by first | omega | (simp; done) | (simp; omega) | fail) (fun k hk => by cases hk); have hz4 := hg4.size; rw [show (((w3.drew.alloc (.cells #[.int .i64 p.cost, .slice Ap p.outs.length cp] 50)).alloc (.cells #[.slice none 0 0, .slice none 0 0] 36)) : World).heap.size = w3.heap.size + 2 by simp] at hz4; have HP4 : Hid (w4.heap[w3.heap.size]? = some (.cells #[.int .i64 p.cost, .slice Ap p.outs.length cp] 50)) := (hg4.block (w3.heap.size) (by first | omega | (simp; done) | (simp; omega) | fail) (fun e => by cases e)).trans (heap_old (heap_new (w := w3.drew) rfl)); have HF4 : Hid (w4.heap[w3.heap.size + 1]? = some (.cells #[.slice none 0 0, .slice none 0 0] 36)) := (hg4.block (w3.heap.size + 1) (by first | omega | (simp; done) | (simp; omega) | fail) (fun e => by cases e)).trans (heap_new (w := w3.drew.alloc (.cells #[.int .i64 p.cost, .slice Ap p.outs.length cp] 50)) (by simp)); have HVV := Lib.hid (own_block_lt hO4.choose_spec.1); have HNV := Lib.hid (own_apart HVV.out); obtain ⟨A4, cap4, hv4, _⟩ := hO4.lenV; rw [List.nil_append] at hv4; subst hv4; have HO4 := Lib.hid hO4; clear hO4 hg4) | (refine step_app_probes ((w3.drew.alloc (.cells #[.slice none 0 0, .slice none 0 0] 36)).alloc (.cells #[.int .i64 p.cost, .slice Ap p.outs.length cp] 50)) (by rfl) _ _ (by rfl) (w3.heap.size + 2) w.heap.size _ [] (by rfl) (OutP.nil _ _ _) A2 c.tests.length c2 c.tests (by rfl) (by rfl) (HPT.out _ (HB3.out.trans (Below.mono (((Below.refl w3.heap.size w3).drew.alloc (Nat.le_refl _) _).alloc (by simp) _) hs3))) (by simp; omega) (by simp) (by omega) ?_; intro v4 w4 hO4 hg4 _; have hB4 : Below w3.heap.size w3 w4 := Below.grown (((Below.refl w3.heap.size w3).drew.alloc (Nat.le_refl _) _).alloc (by simp) _) hg4 (by first | omega | (simp; done) | (simp; omega) | fail) (fun k hk => by cases hk); have hz4 := hg4.size; rw [show (((w3.drew.alloc (.cells #[.slice none 0 0, .slice none 0 0] 36)).alloc (.cells #[.int .i64 p.cost, .slice Ap p.outs.length cp] 50)) : World).heap.size = w3.heap.size + 2 by simp] at hz4; have HP4 : Hid (w4.heap[w3.heap.size + 1]? = some (.cells #[.int .i64 p.cost, .slice Ap p.outs.length cp] 50)) := (hg4.block (w3.heap.size + 1) (by first | omega | (simp; done) | (simp; omega) | fail) (fun e => by cases e)).trans (heap_new (w := w3.drew.alloc (.cells #[.slice none 0 0, .slice none 0 0] 36)) (by simp)); have HF4 : Hid (w4.heap[w3.heap.size]? = some (.cells #[.slice none 0 0, .slice none 0 0] 36)) := (hg4.block (w3.heap.size) (by first | omega | (simp; done) | (simp; omega) | fail) (fun e => by cases e)).trans (heap_old (heap_new (w := w3.drew) rfl)); have HVV := Lib.hid (own_block_lt hO4.choose_spec.1); have HNV := Lib.hid (own_apart HVV.out); obtain ⟨A4, cap4, hv4, _⟩ := hO4.lenV; rw [List.nil_append] at hv4; subst hv4; have HO4 := Lib.hid hO4; clear hO4 hg4) | (have HX : Below w3.heap.size w3 (w4.alloc (.cells #[.int .i64 p.cost, .slice Ap p.outs.length cp] 50)) := (hB4.trans (Below.mono ((Below.refl w4.heap.size w4).alloc (Nat.le_refl _) _) hB4.size)); have hpX : ((w4.alloc (.cells #[.int .i64 p.cost, .slice Ap p.outs.length cp] 50)) : World).heap[w4.heap.size]? = some (.cells #[.int .i64 p.cost, .slice Ap p.outs.length cp] 50) := (heap_new (w := w4) rfl); refine step_app_probes (w4.alloc (.cells #[.int .i64 p.cost, .slice Ap p.outs.length cp] 50)) (by rfl) _ _ (by rfl) (w3.heap.size + 0) w.heap.size _ ([] ++ c.tests) (by rfl) (HO4.out.keep ((Below.refl w4.heap.size w4).alloc (Nat.le_refl _) _) (by have := hB4.size; omega)) (some ⟨w4.heap.size, 0, none⟩) 1 1 [p] (by rfl) (by rfl) (prb_one (cells2 hpX).1.1 (cells2 hpX).1.2 hpc ((HC.out _ (HB3.out.trans (HX.mono hs3))).2.2)) (by simp; omega) (by first | omega | (simp; done) | (simp; omega) | fail) (by omega) ?_; intro v6 w6 hO6 hg6 hat6; have hB6 : Below w3.heap.size w3 w6 := Below.grown HX hg6 HX.size (fun k hk => Nat.le_trans (Nat.le_add_right _ _) (HVV.out k hk).1); obtain ⟨A6, cap6, hv6, _⟩ := hO6.lenV; have hv7 : v6 = .slice A6 (c.tests.length + 1) cap6 := hv6.trans (by simp); clear hv6; subst hv7; have HO6 := Lib.hid hO6; clear hO6; clear hg6 hpX hat6) | (have HX : Below w3.heap.size w3 ((w4.alloc (.cells #[.int .i64 p.cost, .slice Ap p.outs.length cp] 50)).alloc (.cells #[.slice none 0 0, .slice none 0 0] 36)) := (hB4.trans (Below.mono (((Below.refl w4.heap.size w4).alloc (Nat.le_refl _) _).alloc (by simp) _) hB4.size)); have hpX : (((w4.alloc (.cells #[.int .i64 p.cost, .slice Ap p.outs.length cp] 50)).alloc (.cells #[.slice none 0 0, .slice none 0 0] 36)) : World).heap[w4.heap.size]? = some (.cells #[.int .i64 p.cost, .slice Ap p.outs.length cp] 50) := (heap_old (heap_new (w := w4) rfl)); refine step_app_probes ((w4.alloc (.cells #[.int .i64 p.cost, .slice Ap p.outs.length cp] 50)).alloc (.cells #[.slice none 0 0, .slice none 0 0] 36)) (by rfl) _ _ (by rfl) (w3.heap.size + 0) w.heap.size _ ([] ++ c.tests) (by rfl) (HO4.out.keep (((Below.refl w4.heap.size w4).alloc (Nat.le_refl _) _).alloc (by simp) _) (by have := hB4.size; omega)) (some ⟨w4.heap.size, 0, none⟩) 1 1 [p] (by rfl) (by rfl) (prb_one (cells2 hpX).1.1 (cells2 hpX).1.2 hpc ((HC.out _ (HB3.out.trans (HX.mono hs3))).2.2)) (by simp; omega) (by first | omega | (simp; done) | (simp; omega) | fail) (by omega) ?_; intro v6 w6 hO6 hg6 hat6; have hB6 : Below w3.heap.size w3 w6 := Below.grown HX hg6 HX.size (fun k hk => Nat.le_trans (Nat.le_add_right _ _) (HVV.out k hk).1); obtain ⟨A6, cap6, hv6, _⟩ := hO6.lenV; have hv7 : v6 = .slice A6 (c.tests.length + 1) cap6 := hv6.trans (by simp); clear hv6; subst hv7; have HO6 := Lib.hid hO6; clear hO6; have hf6 : w6.heap[w4.heap.size + 1]? = some (.cells #[.slice none 0 0, .slice none 0 0] 36) := (hg6.block (w4.heap.size + 1) (by first | omega | (simp; done) | (simp; omega) | fail) (HNV.out _ (by omega))).trans (heap_new (w := w4.alloc (.cells #[.int .i64 p.cost, .slice Ap p.outs.length cp] 50)) (by simp)); obtain ⟨⟨t0, t1⟩, ff⟩ := cells2 hf6; have f0 := ff 0; have f1 := ff 1; have HF6 := Lib.hid hf6; have HFB : Hid (w.heap.size + 2 ≤ w4.heap.size + 1 ∧ w4.heap.size + 1 < w6.heap.size ∧ ∀ k, Value.ownBlock (.slice A6 (c.tests.length + 1) cap6) = some k → k ≠ w4.heap.size + 1) := ⟨by omega, (by have := hg6.size; (first | omega | (simp at this ⊢; omega) | fail)), fun k hk e => (hat6 k hk).elim (fun h9 => HNV.out k (by omega) h9.symm) (fun h9 => by subst e; (first | omega | (simp at h9; done) | (simp at h9; omega) | fail))⟩; clear hf6 ff; clear hg6 hpX hat6) | (have HX : Below w3.heap.size w3 ((w4.alloc (.cells #[.slice none 0 0, .slice none 0 0] 36)).alloc (.cells #[.int .i64 p.cost, .slice Ap p.outs.length cp] 50)) := (hB4.trans (Below.mono (((Below.refl w4.heap.size w4).alloc (Nat.le_refl _) _).alloc (by simp) _) hB4.size)); have hpX : (((w4.alloc (.cells #[.slice none 0 0, .slice none 0 0] 36)).alloc (.cells #[.int .i64 p.cost, .slice Ap p.outs.length cp] 50)) : World).heap[w4.heap.size + 1]? = some (.cells #[.int .i64 p.cost, .slice Ap p.outs.length cp] 50) := (heap_new (w := w4.alloc (.cells #[.slice none 0 0, .slice none 0 0] 36)) (by simp)); refine step_app_probes ((w4.alloc (.cells #[.slice none 0 0, .slice none 0 0] 36)).alloc (.cells #[.int .i64 p.cost, .slice Ap p.outs.length cp] 50)) (by rfl) _ _ (by rfl) (w3.heap.size + 0) w.heap.size _ ([] ++ c.tests) (by rfl) (HO4.out.keep (((Below.refl w4.heap.size w4).alloc (Nat.le_refl _) _).alloc (by simp) _) (by have := hB4.size; omega)) (some ⟨w4.heap.size + 1, 0, none⟩) 1 1 [p] (by rfl) (by rfl) (prb_one (cells2 hpX).1.1 (cells2 hpX).1.2 hpc ((HC.out _ (HB3.out.trans (HX.mono hs3))).2.2)) (by simp; omega) (by first | omega | (simp; done) | (simp; omega) | fail) (by omega) ?_; intro v6 w6 hO6 hg6 hat6; have hB6 : Below w3.heap.size w3 w6 := Below.grown HX hg6 HX.size (fun k hk => Nat.le_trans (Nat.le_add_right _ _) (HVV.out k hk).1); obtain ⟨A6, cap6, hv6, _⟩ := hO6.lenV; have hv7 : v6 = .slice A6 (c.tests.length + 1) cap6 := hv6.trans (by simp); clear hv6; subst hv7; have HO6 := Lib.hid hO6; clear hO6; have hf6 : w6.heap[w4.heap.size]? = some (.cells #[.slice none 0 0, .slice none 0 0] 36) := (hg6.block (w4.heap.size) (by first | omega | (simp; done) | (simp; omega) | fail) (HNV.out _ (by omega))).trans (heap_old (heap_new (w := w4) rfl)); obtain ⟨⟨t0, t1⟩, ff⟩ := cells2 hf6; have f0 := ff 0; have f1 := ff 1; have HF6 := Lib.hid hf6; have HFB : Hid (w.heap.size + 2 ≤ w4.heap.size ∧ w4.heap.size < w6.heap.size ∧ ∀ k, Value.ownBlock (.slice A6 (c.tests.length + 1) cap6) = some k → k ≠ w4.heap.size) := ⟨by omega, (by have := hg6.size; (first | omega | (simp at this ⊢; omega) | fail)), fun k hk e => (hat6 k hk).elim (fun h9 => HNV.out k (by omega) h9.symm) (fun h9 => by subst e; (first | omega | (simp at h9; done) | (simp at h9; omega) | fail))⟩; clear hf6 ff; clear hg6 hpX hat6) | (have HX : Below w3.heap.size w3 w4 := (hB4.trans (Below.mono (Below.refl w4.heap.size w4) hB4.size)); have hpX : (w4 : World).heap[w3.heap.size]? = some (.cells #[.int .i64 p.cost, .slice Ap p.outs.length cp] 50) := HP4.out; refine step_app_probes w4 (by rfl) _ _ (by rfl) (w3.heap.size + 1) w.heap.size _ ([] ++ c.tests) (by rfl) (HO4.out.keep (Below.refl w4.heap.size w4) (by have := hB4.size; omega)) (some ⟨w3.heap.size, 0, none⟩) 1 1 [p] (by rfl) (by rfl) (prb_one (cells2 hpX).1.1 (cells2 hpX).1.2 hpc ((HC.out _ (HB3.out.trans (HX.mono hs3))).2.2)) (by simp; omega) (by first | omega | (simp; done) | (simp; omega) | fail) (by omega) ?_; intro v6 w6 hO6 hg6 hat6; have hB6 : Below w3.heap.size w3 w6 := Below.grown HX hg6 HX.size (fun k hk => Nat.le_trans (Nat.le_add_right _ _) (HVV.out k hk).1); obtain ⟨A6, cap6, hv6, _⟩ := hO6.lenV; have hv7 : v6 = .slice A6 (c.tests.length + 1) cap6 := hv6.trans (by simp); clear hv6; subst hv7; have HO6 := Lib.hid hO6; clear hO6; clear hg6 hpX hat6) | (have HX : Below w3.heap.size w3 (w4.alloc (.cells #[.slice none 0 0, .slice none 0 0] 36)) := (hB4.trans (Below.mono ((Below.refl w4.heap.size w4).alloc (Nat.le_refl _) _) hB4.size)); have hpX : ((w4.alloc (.cells #[.slice none 0 0, .slice none 0 0] 36)) : World).heap[w3.heap.size]? = some (.cells #[.int .i64 p.cost, .slice Ap p.outs.length cp] 50) := (heap_old HP4.out); refine step_app_probes (w4.alloc (.cells #[.slice none 0 0, .slice none 0 0] 36)) (by rfl) _ _ (by rfl) (w3.heap.size + 1) w.heap.size _ ([] ++ c.tests) (by rfl) (HO4.out.keep ((Below.refl w4.heap.size w4).alloc (Nat.le_refl _) _) (by have := hB4.size; omega)) (some ⟨w3.heap.size, 0, none⟩) 1 1 [p] (by rfl) (by rfl) (prb_one (cells2 hpX).1.1 (cells2 hpX).1.2 hpc ((HC.out _ (HB3.out.trans (HX.mono hs3))).2.2)) (by simp; omega) (by first | omega | (simp; done) | (simp; omega) | fail) (by omega) ?_; intro v6 w6 hO6 hg6 hat6; have hB6 : Below w3.heap.size w3 w6 := Below.grown HX hg6 HX.size (fun k hk => Nat.le_trans (Nat.le_add_right _ _) (HVV.out k hk).1); obtain ⟨A6, cap6, hv6, _⟩ := hO6.lenV; have hv7 : v6 = .slice A6 (c.tests.length + 1) cap6 := hv6.trans (by simp); clear hv6; subst hv7; have HO6 := Lib.hid hO6; clear hO6; have hf6 : w6.heap[w4.heap.size]? = some (.cells #[.slice none 0 0, .slice none 0 0] 36) := (hg6.block (w4.heap.size) (by first | omega | (simp; done) | (simp; omega) | fail) (HNV.out _ (by omega))).trans (heap_new (w := w4) rfl); obtain ⟨⟨t0, t1⟩, ff⟩ := cells2 hf6; have f0 := ff 0; have f1 := ff 1; have HF6 := Lib.hid hf6; have HFB : Hid (w.heap.size + 2 ≤ w4.heap.size ∧ w4.heap.size < w6.heap.size ∧ ∀ k, Value.ownBlock (.slice A6 (c.tests.length + 1) cap6) = some k → k ≠ w4.heap.size) := ⟨by omega, (by have := hg6.size; (first | omega | (simp at this ⊢; omega) | fail)), fun k hk e => (hat6 k hk).elim (fun h9 => HNV.out k (by omega) h9.symm) (fun h9 => by subst e; (first | omega | (simp at h9; done) | (simp at h9; omega) | fail))⟩; clear hf6 ff; clear hg6 hpX hat6) | (have HX : Below w3.heap.size w3 (w4.alloc (.cells #[.int .i64 p.cost, .slice Ap p.outs.length cp] 50)) := (hB4.trans (Below.mono ((Below.refl w4.heap.size w4).alloc (Nat.le_refl _) _) hB4.size)); have hpX : ((w4.alloc (.cells #[.int .i64 p.cost, .slice Ap p.outs.length cp] 50)) : World).heap[w4.heap.size]? = some (.cells #[.int .i64 p.cost, .slice Ap p.outs.length cp] 50) := (heap_new (w := w4) rfl); refine step_app_probes (w4.alloc (.cells #[.int .i64 p.cost, .slice Ap p.outs.length cp] 50)) (by rfl) _ _ (by rfl) (w3.heap.size + 1) w.heap.size _ ([] ++ c.tests) (by rfl) (HO4.out.keep ((Below.refl w4.heap.size w4).alloc (Nat.le_refl _) _) (by have := hB4.size; omega)) (some ⟨w4.heap.size, 0, none⟩) 1 1 [p] (by rfl) (by rfl) (prb_one (cells2 hpX).1.1 (cells2 hpX).1.2 hpc ((HC.out _ (HB3.out.trans (HX.mono hs3))).2.2)) (by simp; omega) (by first | omega | (simp; done) | (simp; omega) | fail) (by omega) ?_; intro v6 w6 hO6 hg6 hat6; have hB6 : Below w3.heap.size w3 w6 := Below.grown HX hg6 HX.size (fun k hk => Nat.le_trans (Nat.le_add_right _ _) (HVV.out k hk).1); obtain ⟨A6, cap6, hv6, _⟩ := hO6.lenV; have hv7 : v6 = .slice A6 (c.tests.length + 1) cap6 := hv6.trans (by simp); clear hv6; subst hv7; have HO6 := Lib.hid hO6; clear hO6; have hf6 : w6.heap[w3.heap.size]? = some (.cells #[.slice none 0 0, .slice none 0 0] 36) := (hg6.block (w3.heap.size) (by first | omega | (simp; done) | (simp; omega) | fail) (HNV.out _ (by omega))).trans (heap_old HF4.out); obtain ⟨⟨t0, t1⟩, ff⟩ := cells2 hf6; have f0 := ff 0; have f1 := ff 1; have HF6 := Lib.hid hf6; have HFB : Hid (w.heap.size + 2 ≤ w3.heap.size ∧ w3.heap.size < w6.heap.size ∧ ∀ k, Value.ownBlock (.slice A6 (c.tests.length + 1) cap6) = some k → k ≠ w3.heap.size) := ⟨by omega, (by have := hg6.size; (first | omega | (simp at this ⊢; omega) | fail)), fun k hk e => (hat6 k hk).elim (fun h9 => HNV.out k (by omega) h9.symm) (fun h9 => by subst e; (first | omega | (simp at h9; done) | (simp at h9; omega) | fail))⟩; clear hf6 ff; clear hg6 hpX hat6) | (have HX : Below w3.heap.size w3 w4 := (hB4.trans (Below.mono (Below.refl w4.heap.size w4) hB4.size)); have hpX : (w4 : World).heap[w3.heap.size]? = some (.cells #[.int .i64 p.cost, .slice Ap p.outs.length cp] 50) := HP4.out; refine step_app_probes w4 (by rfl) _ _ (by rfl) (w3.heap.size + 2) w.heap.size _ ([] ++ c.tests) (by rfl) (HO4.out.keep (Below.refl w4.heap.size w4) (by have := hB4.size; omega)) (some ⟨w3.heap.size, 0, none⟩) 1 1 [p] (by rfl) (by rfl) (prb_one (cells2 hpX).1.1 (cells2 hpX).1.2 hpc ((HC.out _ (HB3.out.trans (HX.mono hs3))).2.2)) (by simp; omega) (by first | omega | (simp; done) | (simp; omega) | fail) (by omega) ?_; intro v6 w6 hO6 hg6 hat6; have hB6 : Below w3.heap.size w3 w6 := Below.grown HX hg6 HX.size (fun k hk => Nat.le_trans (Nat.le_add_right _ _) (HVV.out k hk).1); obtain ⟨A6, cap6, hv6, _⟩ := hO6.lenV; have hv7 : v6 = .slice A6 (c.tests.length + 1) cap6 := hv6.trans (by simp); clear hv6; subst hv7; have HO6 := Lib.hid hO6; clear hO6; have hf6 : w6.heap[w3.heap.size + 1]? = some (.cells #[.slice none 0 0, .slice none 0 0] 36) := (hg6.block (w3.heap.size + 1) (by first | omega | (simp; done) | (simp; omega) | fail) (HNV.out _ (by omega))).trans HF4.out; obtain ⟨⟨t0, t1⟩, ff⟩ := cells2 hf6; have f0 := ff 0; have f1 := ff 1; have HF6 := Lib.hid hf6; have HFB : Hid (w.heap.size + 2 ≤ w3.heap.size + 1 ∧ w3.heap.size + 1 < w6.heap.size ∧ ∀ k, Value.ownBlock (.slice A6 (c.tests.length + 1) cap6) = some k → k ≠ w3.heap.size + 1) := ⟨by omega, (by have := hg6.size; (first | omega | (simp at this ⊢; omega) | fail)), fun k hk e => (hat6 k hk).elim (fun h9 => HNV.out k (by omega) h9.symm) (fun h9 => by subst e; (first | omega | (simp at h9; done) | (simp at h9; omega) | fail))⟩; clear hf6 ff; clear hg6 hpX hat6) | (have HX : Below w3.heap.size w3 w4 := (hB4.trans (Below.mono (Below.refl w4.heap.size w4) hB4.size)); have hpX : (w4 : World).heap[w3.heap.size + 1]? = some (.cells #[.int .i64 p.cost, .slice Ap p.outs.length cp] 50) := HP4.out; refine step_app_probes w4 (by rfl) _ _ (by rfl) (w3.heap.size + 2) w.heap.size _ ([] ++ c.tests) (by rfl) (HO4.out.keep (Below.refl w4.heap.size w4) (by have := hB4.size; omega)) (some ⟨w3.heap.size + 1, 0, none⟩) 1 1 [p] (by rfl) (by rfl) (prb_one (cells2 hpX).1.1 (cells2 hpX).1.2 hpc ((HC.out _ (HB3.out.trans (HX.mono hs3))).2.2)) (by simp; omega) (by first | omega | (simp; done) | (simp; omega) | fail) (by omega) ?_; intro v6 w6 hO6 hg6 hat6; have hB6 : Below w3.heap.size w3 w6 := Below.grown HX hg6 HX.size (fun k hk => Nat.le_trans (Nat.le_add_right _ _) (HVV.out k hk).1); obtain ⟨A6, cap6, hv6, _⟩ := hO6.lenV; have hv7 : v6 = .slice A6 (c.tests.length + 1) cap6 := hv6.trans (by simp); clear hv6; subst hv7; have HO6 := Lib.hid hO6; clear hO6; have hf6 : w6.heap[w3.heap.size]? = some (.cells #[.slice none 0 0, .slice none 0 0] 36) := (hg6.block (w3.heap.size) (by first | omega | (simp; done) | (simp; omega) | fail) (HNV.out _ (by omega))).trans HF4.out; obtain ⟨⟨t0, t1⟩, ff⟩ := cells2 hf6; have f0 := ff 0; have f1 := ff 1; have HF6 := Lib.hid hf6; have HFB : Hid (w.heap.size + 2 ≤ w3.heap.size ∧ w3.heap.size < w6.heap.size ∧ ∀ k, Value.ownBlock (.slice A6 (c.tests.length + 1) cap6) = some k → k ≠ w3.heap.size) := ⟨by omega, (by have := hg6.size; (first | omega | (simp at this ⊢; omega) | fail)), fun k hk e => (hat6 k hk).elim (fun h9 => HNV.out k (by omega) h9.symm) (fun h9 => by subst e; (first | omega | (simp at h9; done) | (simp at h9; omega) | fail))⟩; clear hf6 ff; clear hg6 hpX hat6) | (fail)))
    all_goals
      go_wp2_with fail
      go_meet
      first
      | exact ⟨w6.heap.size, A6, cap6, rfl, by simp, (by have := hB6.size; omega), ⟨newcell _ _ _ _, newcell _ _ _ _⟩, (HO6.out.keep ((Below.refl _ _).alloc (Nat.le_refl _) _) (by have := hB6.size; omega)).probes (by have := hB6.size; simp; omega), (HB3.out.trans (hB6.mono hs3)).alloc (by have := hB6.size; omega) _⟩
      | exact ⟨_, A6, cap6, rfl, by simpa using HFB.out.2.1, HFB.out.1, (cells2 (heap_set2 HF6.out _ _)).1, ((HO6.out.far (a := ⟨_, 0, none⟩) HFB.out.2.2 (Nat.le_trans (Nat.le_add_right _ _) HFB.out.1) _).far (a := ⟨_, 1, none⟩) HFB.out.2.2 (Nat.le_trans (Nat.le_add_right _ _) HFB.out.1) _).probes (by have := hB6.size; simp; omega), ((HB3.out.trans (hB6.mono hs3)).setCell (p := ⟨_, 0, none⟩) HFB.out.1 _).setCell (p := ⟨_, 1, none⟩) HFB.out.1 _⟩
  case rest =>
    obtain ⟨g, A', cap', rfl, hgl, hg2, HG, HPA, HBC⟩ := hcut
    rename World => wc
    have hsc := HBC.out.size
    rw [hsz] at hsc
    obtain ⟨g0, g1⟩ := HG.out
    have hwl := (HC.out W2 (Below.refl _ _)).1.ws.1
    have HCM : Hid (∀ wx, Below wc.heap.size wc wx → CaseA wx wx.heap.size A1 A2 c ∧ CaseA wx wx.heap.size A1 A' (moreC c p) ∧ TabW wx) := fun wx hb => by
      have hb2 := HBC.out.trans (hb.mono hsc)
      have h1 := HC.out wx hb2
      have hle : w.heap.size ≤ wx.heap.size := by have := hb2.size; omega
      refine ⟨h1.1.more hle, ⟨h1.1.ws.more hle, ?_, ProbesA.more (ProbesA.below HPA.out hb (Nat.le_refl _)) hb.size⟩, h1.2.1⟩
      rw [more_len]
      unfold maxLen
      omega
    have HKC : Hid (∀ wx, Below wc.heap.size wc wx → (wx.cell? ⟨w.heap.size, 0, none⟩ = some (.slice A1 c.weights.length c1) ∧ wx.cell? ⟨w.heap.size, 1, none⟩ = some (.slice A2 c.tests.length c2)) ∧ wx.cell? ⟨g, 0, none⟩ = some (.slice A1 c.weights.length c1) ∧ wx.cell? ⟨g, 1, none⟩ = some (.slice A' (c.tests.length + 1) cap')) := fun wx hb => by
      have h9 := HK.out wx (HBC.out.trans (hb.mono hsc))
      exact ⟨⟨h9.1, h9.2.1⟩, (bcell hb _ _ hgl).trans g0, (bcell hb _ _ hgl).trans g1⟩
    have HWR : Hid (∀ wx, Below wc.heap.size wc wx → Calls Tryd.prog 18 #[] wx fun e w' => e = .returned (.bool true) ∧ Below wx.heap.size wx w') := fun wx hb => works_any wx (HCM.out wx hb).2.2
    have HF : Hid (∀ wx, Below wc.heap.size wc wx → Below w.heap.size w wx) := fun wx hb => HB0.out.trans ((HBC.out.trans (hb.mono hsc)).mono (by omega))
    obtain ⟨b2, hb2⟩ : ∃ b2, bigB (moreC c p) = b2 := ⟨_, rfl⟩
    have H19M : Hid (Calls Tryd.prog 19 #[.agg #[.slice A1 c.weights.length c1, .slice A' (c.tests.length + 1) cap']] wc fun e w' => e = .returned (.bool b2) ∧ Below wc.heap.size wc w') := by
      have h9 := big_any A1 A' c1 cap' (moreC c p) wc hb2
      rw [more_len] at h9
      exact h9
    have H25 : Hid (∀ wx, Below wc.heap.size wc wx → Calls Tryd.prog 25 #[.agg #[.slice A1 c.weights.length c1, .slice A2 c.tests.length c2]] wx fun e w' => (∃ v, e = .returned (.tuple #[v, .int .i64 (checkC c)]) ∧ OutRR w' wx.heap.size v (if caseB c = true then (groupsS c (-1) c.weights.length).map bitsI else [])) ∧ Below wx.heap.size wx w') := fun wx hb => groups25_any A1 A2 c1 c2 c wx (HCM.out wx hb).1 (HCM.out wx hb).2.2
    have H25M : Hid (∀ wx, Below wc.heap.size wc wx → Calls Tryd.prog 25 #[.agg #[.slice A1 c.weights.length c1, .slice A' (c.tests.length + 1) cap']] wx fun e w' => (∃ v, e = .returned (.tuple #[v, .int .i64 (checkC (moreC c p))]) ∧ OutRR w' wx.heap.size v (if caseB (moreC c p) = true then (groupsS (moreC c p) (-1) c.weights.length).map bitsI else [])) ∧ Below wx.heap.size wx w') := fun wx hb => by
      have h9 := groups25_any A1 A' c1 cap' (moreC c p) wx (HCM.out wx hb).2.1 (HCM.out wx hb).2.2
      rw [more_len] at h9
      exact h9
    clear p0 p1 e0 e1 HC HK H19 HPT HG HPA HB3 n0 n1 hml hwl hpc hB hs3
    rcases b2 with _ | _
    rotate_left
    · clear hb2
      go_wp2_with (first | (go_at_call 19; (with_reducible refine H19M.out.mono ?_); rintro e w4 ⟨rfl, hb4⟩; have HB4 := Lib.hid hb4; clear hb4) | (go_at_call 18; (with_reducible refine (HWR.out _ HB4.out).mono ?_); rintro e w8 ⟨rfl, hb8⟩))
      go_ret
      exact ⟨rfl, HF.out _ (HB4.out.trans (hb8.mono HB4.out.size))⟩
    · clear hb2
      obtain ⟨E1, hE1⟩ : ∃ E, checkC c = E := ⟨_, rfl⟩
      obtain ⟨E2, hE2⟩ : ∃ E, checkC (moreC c p) = E := ⟨_, rfl⟩
      obtain ⟨X, hX⟩ : ∃ X, (if caseB c = true then (groupsS c (-1) c.weights.length).map bitsI else []) = X := ⟨_, rfl⟩
      obtain ⟨Y, hY⟩ : ∃ Y, (if caseB (moreC c p) = true then (groupsS (moreC c p) (-1) c.weights.length).map bitsI else []) = Y := ⟨_, rfl⟩
      rw [hE1, hX] at H25
      rw [hE2, hY] at H25M
      rcases h1 : caseB c
      · have hE : E1 = 101 := by rw [← hE1, checkC_no h1]
        subst hE
        clear h1 hX hY hE1 hE2
        go_wp2_with (first | (go_at_call 19; (with_reducible refine H19M.out.mono ?_); rintro e w4 ⟨rfl, hb4⟩; have HB4 := Lib.hid hb4; obtain ⟨⟨r0, r1⟩, r2, r3⟩ := HKC.out w4 HB4.out; clear hb4) | (go_at_call 25; (with_reducible refine (H25.out _ HB4.out).mono ?_); rintro e w5 ⟨⟨v5, rfl, _⟩, hb5⟩; have HB5 := Lib.hid (HB4.out.trans (hb5.mono HB4.out.size)); obtain ⟨⟨s0, s1⟩, s2, s3⟩ := HKC.out w5 HB5.out; clear hb5) | (go_at_call 25; (with_reducible refine (H25M.out _ HB5.out).mono ?_); rintro e w6 ⟨⟨v6, rfl, _⟩, hb6⟩; have HB6 := Lib.hid (HB5.out.trans (hb6.mono HB5.out.size)); clear hb6) | (go_at_call 18; (with_reducible refine (HWR.out _ HB6.out).mono ?_); rintro e w8 ⟨rfl, hb8⟩))
        go_ret
        exact ⟨rfl, HF.out _ (HB6.out.trans (hb8.mono HB6.out.size))⟩
      · have hE : E1 = 0 := by rw [← hE1, checkC_yes h1]
        subst hE
        rcases h2 : caseB (moreC c p)
        · have hE : E2 = 101 := by rw [← hE2, checkC_no h2]
          subst hE
          clear h1 h2 hX hY hE1 hE2
          go_wp2_with (first | (go_at_call 19; (with_reducible refine H19M.out.mono ?_); rintro e w4 ⟨rfl, hb4⟩; have HB4 := Lib.hid hb4; obtain ⟨⟨r0, r1⟩, r2, r3⟩ := HKC.out w4 HB4.out; clear hb4) | (go_at_call 25; (with_reducible refine (H25.out _ HB4.out).mono ?_); rintro e w5 ⟨⟨v5, rfl, _⟩, hb5⟩; have HB5 := Lib.hid (HB4.out.trans (hb5.mono HB4.out.size)); obtain ⟨⟨s0, s1⟩, s2, s3⟩ := HKC.out w5 HB5.out; clear hb5) | (go_at_call 25; (with_reducible refine (H25M.out _ HB5.out).mono ?_); rintro e w6 ⟨⟨v6, rfl, _⟩, hb6⟩; have HB6 := Lib.hid (HB5.out.trans (hb6.mono HB5.out.size)); clear hb6) | (go_at_call 18; (with_reducible refine (HWR.out _ HB6.out).mono ?_); rintro e w8 ⟨rfl, hb8⟩))
          go_ret
          exact ⟨rfl, HF.out _ (HB6.out.trans (hb8.mono HB6.out.size))⟩
        · have hE : E2 = 0 := by rw [← hE2, checkC_yes h2]
          subst hE
          have hok := caseOk h1
          have hokm := caseOk h2
          have hn1 := hok.n1
          have hn2 := hok.n2
          rw [if_pos h1] at hX
          rw [if_pos h2] at hY
          have hxl : X.length = (groupsS c (-1) c.weights.length).length := by rw [← hX, List.length_map]
          have hyl : Y.length = (groupsS (moreC c p) (-1) c.weights.length).length := by rw [← hY, List.length_map]
          have hx12 : X.length ≤ 12 := by have := groupsS_len c (-1) c.weights.length; omega
          have hy12 : Y.length ≤ 12 := by have := groupsS_len (moreC c p) (-1) c.weights.length; omega
          have HIN : Hid (∀ i y, Y[i]? = some y → insTo X y X.length = true) := fun i y hy => by
            have hi : i < (groupsS (moreC c p) (-1) c.weights.length).length := by have := (List.getElem?_eq_some_iff.1 hy).1; omega
            obtain ⟨k, hk, hkb⟩ := more_inside hok hokm hi
            refine insTo_yes (j := k) ?_ (by omega)
            rw [← hX, List.getD_eq_getElem?_getD, List.getElem?_map, List.getElem?_eq_getElem hk]
            rw [← hY, List.getElem?_map, List.getElem?_eq_getElem hi] at hy
            injection hy with hy
            rw [← hy]
            refine contB_bits fun b hb => ?_
            have := hkb b (by rw [List.getD_eq_getElem?_getD, List.getElem?_eq_getElem hi]; exact hb)
            rw [List.getD_eq_getElem?_getD, List.getElem?_eq_getElem hk] at this
            exact this
          obtain ⟨ka, hka⟩ : ∃ k, (bestS c (fullS c)).2 = k := ⟨_, rfl⟩
          obtain ⟨kb, hkb⟩ : ∃ k, (bestS (moreC c p) (fullS c)).2 = k := ⟨_, rfl⟩
          have HLE : Hid (X.length = Y.length → kb ≤ ka) := fun hl => by
            rw [← hka, ← hkb]
            exact best_more hok hokm (by omega) (fullS c) (fullS_lt c)
          have H20 : Hid (∀ wx, Below wc.heap.size wc wx → Calls Tryd.prog 20 #[.agg #[.slice A1 c.weights.length c1, .slice A2 c.tests.length c2]] wx fun e w' => ∃ v, e = .returned (.tuple #[v, .int .i64 ka, .int .i64 0]) ∧ Below wx.heap.size wx w') := fun wx hb => by
            refine (guide_any A1 A2 c1 c2 c wx (HCM.out wx hb).1 (HCM.out wx hb).2.2).mono ?_
            rintro e w' ⟨hb', ⟨h9, _⟩ | ⟨_, v, he, _⟩⟩
            · rw [h1] at h9; cases h9
            · exact ⟨v, by rw [he, hka], hb'⟩
          have H20M : Hid (∀ wx, Below wc.heap.size wc wx → Calls Tryd.prog 20 #[.agg #[.slice A1 c.weights.length c1, .slice A' (c.tests.length + 1) cap']] wx fun e w' => ∃ v, e = .returned (.tuple #[v, .int .i64 kb, .int .i64 0]) ∧ Below wx.heap.size wx w') := fun wx hb => by
            have h9 := guide_any A1 A' c1 cap' (moreC c p) wx (HCM.out wx hb).2.1 (HCM.out wx hb).2.2
            rw [more_len] at h9
            refine Calls.mono h9 ?_
            rintro e w' ⟨hb', ⟨h9, _⟩ | ⟨_, v, he, _⟩⟩
            · rw [h2] at h9; cases h9
            · exact ⟨v, by rw [he, ← hkb]; rfl, hb'⟩
          have HX0 : Hid (0 < X.length) := by
            obtain ⟨k, hk, _⟩ := (groups_ok hok (-1) (Nat.le_refl c.weights.length)).cov 0 (by omega)
            show _ < _
            omega
          have HY0 : Hid (0 < Y.length) := by
            obtain ⟨k, hk, _⟩ := (groups_ok hokm (-1) (Nat.le_refl (moreC c p).weights.length)).cov 0 (show 0 < c.weights.length by omega)
            have hk : k < (groupsS (moreC c p) (-1) c.weights.length).length := hk
            show _ < _
            omega
          have hxm : X.length ≤ maxLen := by unfold maxLen; omega
          have hym : Y.length ≤ maxLen := by unfold maxLen; omega
          clear hX hY hE1 hE2 h1 h2 hok hokm hxl hyl hka hkb
          go_wp2_with (first
            | (go_at_call 19; (with_reducible refine H19M.out.mono ?_); rintro e w4 ⟨rfl, hb4⟩; have HB4 := Lib.hid hb4; obtain ⟨⟨r0, r1⟩, r2, r3⟩ := HKC.out w4 HB4.out; clear hb4)
            | (go_at_call 25; (with_reducible refine (H25.out _ HB4.out).mono ?_); rintro e w5 ⟨⟨v5, rfl, hO5⟩, hb5⟩; obtain ⟨Ax, cx, hvx, _⟩ := hO5.lenV; subst hvx; have hR5 := hO5.rows hxm; obtain ⟨_, xb, xo, _, _, _, hAx, _⟩ := hR5.at_ HX0.out; subst hAx; have HX5 := Lib.hid hR5; have HB5 := Lib.hid (HB4.out.trans (hb5.mono HB4.out.size)); obtain ⟨⟨s0, s1⟩, s2, s3⟩ := HKC.out w5 HB5.out; clear hb5 hR5 hO5)
            | (go_at_call 25; (with_reducible refine (H25M.out _ HB5.out).mono ?_); rintro e w6 ⟨⟨v6, rfl, hO6⟩, hb6⟩; obtain ⟨Ay, cy, hvy, _⟩ := hO6.lenV; subst hvy; have hR6 := hO6.rows hym; obtain ⟨_, yb, yo, _, _, _, hAy, _⟩ := hR6.at_ HY0.out; subst hAy; have HY6 := Lib.hid hR6; have HX6 := Lib.hid ((HX5.out.keep hb6).more hb6.size); have HB6 := Lib.hid (HB5.out.trans (hb6.mono HB5.out.size)); clear hb6 hR6 hO6))
          clear r0 r1 r2 r3 s0 s1 s2 s3 g0 g1 HX5 HB5 HB4 H25 H25M H19M
          go_loopw [10] (fun vi wr => ∃ i : Nat, i ≤ Y.length ∧ vi = .int .i64 i ∧ Hid (Below w6.heap.size w6 wr)) (fun vi _ => Y.length - (intOf vi).toNat)
          case atStart => exact ⟨0, Nat.zero_le _, rfl, Below.refl _ _⟩
          case round =>
            obtain ⟨i, hi, rfl, HBR⟩ := hrel
            rename World => wr
            by_cases hlt : i < Y.length
            · obtain ⟨y, yb', yo', Ap, cp', hy, hA, hyl, y0, _, hIy⟩ := (HY6.out.keep HBR.out).at_ hlt
              injection hA with hA
              injection hA with e5 e6
              subst e5
              subst e6
              have HYY : Hid (insTo X y X.length = true) := HIN.out i y hy
              have HIY := Lib.hid hIy
              have HY0' : Hid (∀ wx, Below w6.heap.size wr wx → wx.cell? ⟨yb, yo + i, none⟩ = some (.slice Ap y.length cp')) := fun wx hb => (bcell hb _ _ hyl).trans y0
              clear hy hIy y0
              go_wp2_with fail
              go_loopw [12, 11] (fun vk vb wx => ∃ (k : Nat) (b : Bool), k ≤ X.length ∧ vk = .int .i64 k ∧ vb = .bool b ∧ Hid (b = insTo X y k) ∧ Hid (Below w6.heap.size wr wx)) (fun vk _ _ => X.length - (intOf vk).toNat)
              case atStart => exact ⟨0, false, Nat.zero_le _, rfl, rfl, rfl, Below.refl _ _⟩
              case round =>
                obtain ⟨k, b, hk, rfl, rfl, HO, HBX⟩ := hrel
                rename World => wx
                by_cases hkl : k < X.length
                · obtain ⟨x, xb', xo', Aq, cq, hx, hA, hxl, x0, _, hIx⟩ := ((HX6.out.keep HBR.out).keep HBX.out).at_ hkl
                  injection hA with hA
                  injection hA with e5 e6
                  subst e5
                  subst e6
                  have hsx := (HBR.out.trans HBX.out).size
                  have HST := Lib.hid (insTo_succ (y := y) hx)
                  rcases b with _ | _
                  · obtain ⟨cc, hcc⟩ : ∃ cc, contB x y = cc := ⟨_, rfl⟩
                    have H26 : Hid (∀ s : BW wx.heap.size wx, Calls Tryd.prog 26 #[.slice Aq x.length cq, .slice Ap y.length cp'] s.1 fun e w' => e = .returned (.bool cc) ∧ Below s.1.heap.size s.1 w') := fun s => contains_any Aq Ap cq cp' x y s.1 ((hIx.keep (s.2.mono hsx)).more (by have := s.2.size; omega)) ((HIY.out.keep (HBX.out.trans (s.2.mono hsx))).more (by have := s.2.size; omega)) hcc
                    have q2 := BW.cell (B := wx.heap.size) (W := wx) (show xb < wx.heap.size by omega) x0
                    have q3 := BW.cell (B := wx.heap.size) (W := wx) (show yb < wx.heap.size by omega) (HY0'.out wx HBX.out)
                    have HS2 : Hid (cc = insTo X y (k + 1)) := by show _ = _; rw [HST.out, ← HO.out, hcc, Bool.false_or]
                    clear hx hIx x0 hcc
                    go_wp2_with fail
                    refine wp_region_below wx.heap.size wx (Below.refl _ _) (by kernel_rfl) (by kernel_rfl) ?_
                    repeat (go_big_quiet_step ((go_at_call 26; exact quiet_below (Nat.le_refl _) (H26.out _))))
                    refine wpQuiet_nil ?_
                    intro s''
                    have HB9 := Lib.hid s''.2
                    generalize s''.1 = w9 at *
                    clear q2 q3 H26
                    go_wp2_with fail
                    go_roundw
                    case rel => exact ⟨k + 1, cc, by omega, by go_num, rfl, HS2.out, HBX.out.trans (HB9.out.mono hsx)⟩
                    case measure => simp [intOf]; omega
                  · have HS2 : Hid (true = insTo X y (k + 1)) := by show _ = _; rw [HST.out, ← HO.out]; rfl
                    clear hx hIx x0
                    go_wp2_with fail
                    go_quiet (fail)
                    go_wp2_with fail
                    go_roundw
                    case rel => exact ⟨k + 1, true, by omega, by go_num, rfl, HS2.out, below_drewN HBX.out _⟩
                    case measure => simp [intOf]; omega
                · obtain rfl : k = X.length := by omega
                  obtain rfl : b = true := HO.out.trans HYY.out
                  go_wp2_with fail
                  go_roundw
                  case rel => exact ⟨i + 1, by omega, by go_num, HBR.out.trans HBX.out⟩
                  case measure => simp [intOf]; omega
            · obtain rfl : i = Y.length := by omega
              have HB7 := Lib.hid (HB6.out.trans (HBR.out.mono HB6.out.size))
              obtain ⟨⟨r0, r1⟩, r2, r3⟩ := HKC.out wr HB7.out
              clear HX6 HY6 HIN HBR
              by_cases hl : X.length = Y.length
              · have hle := HLE.out hl
                have e9 : ((X.length : Int) != (Y.length : Int)) = false := by rw [hl]; simp
                have e8 : decide (kb ≤ ka) = true := decide_eq_true hle
                clear hle hl
                go_wp2_with (first | (go_at_call 20; (with_reducible refine (H20.out _ HB7.out).mono ?_); rintro e w7 ⟨v7, rfl, hb7⟩; have HB8 := Lib.hid (HB7.out.trans (hb7.mono HB7.out.size)); obtain ⟨⟨s0, s1⟩, s2, s3⟩ := HKC.out w7 HB8.out; clear hb7) | (go_at_call 20; (with_reducible refine (H20M.out _ HB8.out).mono ?_); rintro e w9 ⟨v9, rfl, hb9⟩; have HB9 := Lib.hid (HB8.out.trans (hb9.mono HB8.out.size)); clear hb9) | (go_at_call 18; (with_reducible refine (HWR.out _ HB9.out).mono ?_); rintro e w8 ⟨rfl, hb8⟩))
                go_ret
                exact ⟨rfl, HF.out _ (HB9.out.trans (hb8.mono HB9.out.size))⟩
              · have e9 : ((X.length : Int) != (Y.length : Int)) = true := by rw [bne_iff_ne]; omega
                clear hl
                go_wp2_with (first | (go_at_call 20; (with_reducible refine (H20.out _ HB7.out).mono ?_); rintro e w7 ⟨v7, rfl, hb7⟩; have HB8 := Lib.hid (HB7.out.trans (hb7.mono HB7.out.size)); obtain ⟨⟨s0, s1⟩, s2, s3⟩ := HKC.out w7 HB8.out; clear hb7) | (go_at_call 20; (with_reducible refine (H20M.out _ HB8.out).mono ?_); rintro e w9 ⟨v9, rfl, hb9⟩; have HB9 := Lib.hid (HB8.out.trans (hb9.mono HB8.out.size)); clear hb9) | (go_at_call 18; (with_reducible refine (HWR.out _ HB9.out).mono ?_); rintro e w8 ⟨rfl, hb8⟩))
                go_ret
                exact ⟨rfl, HF.out _ (HB9.out.trans (hb8.mono HB9.out.size))⟩
set_option maxRecDepth 100000 in
set_option maxHeartbeats 2000000 in
theorem lawMore_any (A1 A2 : Option Addr) (c1 c2 : Nat) (c : MCase) (Ap : Option Addr) (cp : Nat) (p : MProbe) (w : World) (h : CaseA w w.heap.size A1 A2 c) (hB : c.tests.length * 32 ≤ 140737488351232) (hp : IntsA w w.heap.size Ap p.outs) (hpc : p.outs.length ≤ cp) (hT : TabW w) :
    Calls Tryd.prog 6 #[.agg #[.slice A1 c.weights.length c1, .slice A2 c.tests.length c2], .agg #[.int .i64 p.cost, .slice Ap p.outs.length cp]] w fun e w' => e = .returned (.bool true) ∧ Below w.heap.size w w' := by
  rcases hbig : bigB c
  · exact lawMore_main A1 A2 c1 c2 c Ap cp p w h hp hpc hT hB hbig
  · obtain ⟨W2, hW2⟩ : ∃ W2, (w.alloc (.cells #[.slice A1 c.weights.length c1, .slice A2 c.tests.length c2] 36)).alloc (.cells #[.int .i64 p.cost, .slice Ap p.outs.length cp] 50) = W2 := ⟨_, rfl⟩
    have hb2 : Below w.heap.size w W2 := by rw [← hW2]; exact ((Below.refl _ _).alloc (Nat.le_refl _) _).alloc (by simp) _
    have hsz : W2.heap.size = w.heap.size + 2 := by rw [← hW2]; simp
    have n0 : W2.cell? ⟨w.heap.size, 0, none⟩ = some (.slice A1 c.weights.length c1) := by rw [← hW2, acell _ _ _ _ (by simp), newcell]; rfl
    have n1 : W2.cell? ⟨w.heap.size, 1, none⟩ = some (.slice A2 c.tests.length c2) := by rw [← hW2, acell _ _ _ _ (by simp), newcell]; rfl
    have H19 : Hid (Calls Tryd.prog 19 #[.agg #[.slice A1 c.weights.length c1, .slice A2 c.tests.length c2]] W2 fun e w' => e = .returned (.bool true) ∧ Below W2.heap.size W2 w') := big_any _ _ _ _ _ _ hbig
    have HW : Hid (∀ wx, Below w.heap.size w wx → Calls Tryd.prog 18 #[] wx fun e w' => e = .returned (.bool true) ∧ Below wx.heap.size wx w') := fun wx hb => works_any wx (hT.keep hb)
    have HB2 := Lib.hid hb2
    clear h hB hp hpc hT hbig hb2
    go_enter Tryd.func6, Tryd.ntmps6
    go_upto_region 1 with fail
    clear hW2
    go_wp2_with (first | (go_at_call 19; (with_reducible refine H19.out.mono ?_); rintro e w3 ⟨rfl, hb3⟩; have HB3 := Lib.hid (HB2.out.trans (hb3.mono (by omega))); clear hb3) | (go_at_call 18; (with_reducible refine (HW.out _ HB3.out).mono ?_); rintro e w8 ⟨rfl, hb8⟩))
    go_ret
    exact ⟨rfl, HB3.out.trans (hb8.mono HB3.out.size)⟩
end Go.Proofs.YtonpemikodajdaaDoor
