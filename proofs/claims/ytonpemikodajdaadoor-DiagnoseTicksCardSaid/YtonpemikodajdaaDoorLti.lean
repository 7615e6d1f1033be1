/- Walk: the law of Ticks. -/
import Derived.Test.YtonpemikodajdaaDoorTl
import Derived.Test.YtonpemikodajdaaDoorMd
import Derived.Test.YtonpemikodajdaaDoorOc
import Derived.Test.YtonpemikodajdaaDoorWk
namespace Go.Proofs.YtonpemikodajdaaDoor
open Go.RowKit

theorem MemN.after {w w' : World} {B B' : Nat} {v : Value} {t : Int} {s : WSt} (h : MemN w B v t s) (hb : Below B' w w') (hB : w.heap.size ≤ B') : MemA w' w'.heap.size v t s := h w' hb.size fun b _ hl => hb.block b (by omega)
theorem MemN.below {w w' : World} {B B' : Nat} {v : Value} {t : Int} {s : WSt} (h : MemN w B v t s) (hb : Below B' w w') (hB : w.heap.size ≤ B') : MemN w' B v t s := h.moved hb.size fun b _ hl => hb.block b (by omega)
def mem4 (t : Int) (A1 : Option Addr) (n1 c1 : Nat) (A2 : Option Addr) (n2 c2 : Nat) (A3 : Option Addr) (n3 c3 : Nat) : Array Value := #[.int .i64 t, .slice A1 n1 c1, .slice A2 n2 c2, .slice A3 n3 c3]
set_option maxRecDepth 100000 in
set_option maxHeartbeats 4000000 in
theorem ticks_any (A : Option Addr) (lc : Nat) (l : List MMon) (v : Value) (t : Int) (s : WSt) (R : Option Addr) (rc : Nat) (row : List Int) (w : World) (h : MonsA w w.heap.size A l) (hm : MemX w v t s) (hr : IntsA w w.heap.size R row) (hT : TabW w) :
    Calls Tryd.prog 8 #[.slice A l.length lc, v, .slice R row.length rc] w fun e w' => e = .returned (.bool true) ∧ Below w.heap.size w w' := by
  obtain ⟨Ac, cc, Ak, ck, Av, cv, rfl, hMq⟩ := hm
  obtain ⟨w1, hw1⟩ : ∃ w1, w1 = w.alloc (.cells #[.int .i64 t, .slice Ac s.ns.length cc, .slice Ak s.cs.length ck, .slice Av s.ks.length cv] 27) := ⟨_, rfl⟩
  have hb1 : Below w.heap.size w w1 := by rw [hw1]; exact (Below.refl _ _).alloc (Nat.le_refl _) _
  have hh1 : w1.heap[w.heap.size]? = some (.cells #[.int .i64 t, .slice Ac s.ns.length cc, .slice Ak s.cs.length ck, .slice Av s.ks.length cv] 27 (0, 0)) := by rw [hw1]; exact heap_alloc_new w _
  have hs1 : w1.heap.size = w.heap.size + 1 := by rw [hw1]; simp
  have g3 := row_cell hh1 3
  simp only [List.getElem?_toArray, List.getElem?_cons_succ, List.getElem?_cons_zero] at g3
  have hwf := hw1.symm
  have HX : Hid (∀ W, Below w1.heap.size w1 W → Below w.heap.size w W) := fun W hW => hb1.trans (hW.mono (by omega))
  have HTW : Hid (∀ W, Below w1.heap.size w1 W → TabW W) := fun W hW => hT.keep (HX.out W hW)
  clear hw1
  rcases Nat.lt_or_ge 100 s.ks.length with hbig | hsm
  · clear hh1 hT h hr hMq
    go_enter Tryd.func8, Tryd.ntmps8
    go_wp2_with (go_at_call 18; refine (works_any _ (HTW.out _ (Below.refl _ _))).mono ?_; rintro e w7 ⟨rfl, hb7⟩; have HB7 := Lib.hid hb7; clear hb7)
    go_ret
    exact ⟨rfl, HX.out _ HB7.out⟩
  have hM := hMq (by omega)
  have HH : Hid (∀ W, Below w1.heap.size w1 W → MonsA W W.heap.size A l) := fun W hW => (h.keep (HX.out W hW)).more (HX.out W hW).size
  have HR : Hid (∀ W, Below w1.heap.size w1 W → IntsA W W.heap.size R row) := fun W hW => (hr.keep (HX.out W hW)).more (HX.out W hW).size
  have HM : Hid (∀ W, Below w1.heap.size w1 W → MemA W W.heap.size (.agg #[.int .i64 t, .slice Ac s.ns.length cc, .slice Ak s.cs.length ck, .slice Av s.ks.length cv]) t s) := fun W hW => (hM.keep (HX.out W hW)).more (HX.out W hW).size
  have HT : Hid (∀ W, Below w1.heap.size w1 W → W.cell? ⟨w.heap.size, 0, none⟩ = some (.int .i64 t) ∧ W.cell? ⟨w.heap.size, 1, none⟩ = some (.slice Ac s.ns.length cc) ∧ W.cell? ⟨w.heap.size, 2, none⟩ = some (.slice Ak s.cs.length ck) ∧ W.cell? ⟨w.heap.size, 3, none⟩ = some (.slice Av s.ks.length cv)) := fun W hW => by
    have hh := (hW.block w.heap.size (by omega)).trans hh1
    exact ⟨row_cell hh 0, row_cell hh 1, row_cell hh 2, row_cell hh 3⟩
  obtain ⟨r, hrr⟩ : ∃ r, checkM l = r := ⟨_, rfl⟩
  obtain ⟨E, hE⟩ : ∃ E, tickE l t s row = E := ⟨_, rfl⟩
  obtain ⟨T, hTT⟩ : ∃ T, tickT l t s row = T := ⟨_, rfl⟩
  obtain ⟨S, hSS⟩ : ∃ S, tickS l t s row = S := ⟨_, rfl⟩
  obtain ⟨S0, hS0⟩ : ∃ S, begS l = S := ⟨_, rfl⟩
  have hre : (r == r) = true := by simp
  have hrn : (r != r) = false := by simp
  have hEe : (E == E) = true := by simp
  have HRR := Lib.hid hrr
  have HEE := Lib.hid hE
  have HTT := Lib.hid hTT
  have HSS := Lib.hid hSS
  have HS0 := Lib.hid hS0
  have HSZ := Lib.hid hs1
  have HC : Hid (Calls Tryd.prog 32 #[.slice A l.length lc] w1 fun e w' => e = .returned (.int .i64 r) ∧ Below w1.heap.size w1 w') := mcheck_any A lc l w1 (HH.out _ (Below.refl _ _)) hrr
  clear hrr hE hTT hSS hS0 hh1 hT h hr hMq hM hb1
  go_enter Tryd.func8, Tryd.ntmps8
  go_upto_region 7 with (first
    | (go_at_call 32; refine HC.out.mono ?_; rintro e w2 ⟨rfl, hb2⟩; have HB2 := Lib.hid hb2; clear hb2)
    | (go_at_call 23; refine (rmcheck_any A lc l _ (HH.out _ HB2.out) HRR.out).mono ?_; rintro e w3 ⟨rfl, hb3⟩; have HB3 := Lib.hid (HB2.out.trans (hb3.mono HB2.out.size)); clear hb3)
    | (go_at_call 33; refine (begin_o A lc l _ (HH.out _ HB3.out)).mono ?_; rintro e w4 ⟨⟨v4, rfl, hN4⟩, hb4⟩; rw [HRR.out]; rw [HS0.out] at hN4; obtain ⟨A1, c1, B1, d1, C1, e1, rfl, _⟩ := hN4.mem; have HN4 := Lib.hid hN4; have HB4 := Lib.hid (HB3.out.trans (hb4.mono HB3.out.size)); clear hN4 hb4)
    | (go_at_call 34; refine (begin_r A lc l _ (HH.out _ (HB4.out.alloc HB4.out.size _))).mono ?_; rintro e w6 ⟨⟨v6, rfl, hN6⟩, hb6⟩; rw [HRR.out]; rw [HS0.out] at hN6; obtain ⟨A2, c2, B2, d2, C2, e2, rfl, _⟩ := hN6.mem; have HN6 := Lib.hid hN6; have HX6 := Lib.hid ((hb6.block w4.heap.size (by simp)).trans (heap_alloc_new w4 _)); have HB6 := Lib.hid hb6; clear hN6 hb6))
  obtain ⟨w7, hw7⟩ : ∃ w7, w6.alloc (.cells #[.int .i64 0, .slice A2 S0.ns.length c2, .slice B2 S0.cs.length d2, .slice C2 S0.ks.length e2] 27) = w7 := ⟨_, rfl⟩
  have hb67 : Below w6.heap.size w6 w7 := by rw [← hw7]; exact (Below.refl _ _).alloc (Nat.le_refl _) _
  have hy7 : w7.heap[w6.heap.size]? = some (.cells #[.int .i64 0, .slice A2 S0.ns.length c2, .slice B2 S0.cs.length d2, .slice C2 S0.ks.length e2] 27 (0, 0)) := by rw [← hw7]; exact heap_alloc_new w6 _
  have hs7 : w7.heap.size = w6.heap.size + 1 := by rw [← hw7]; simp
  have hs46 : w4.heap.size + 1 ≤ w6.heap.size := by have := HB6.out.size; simpa using this
  have hs14 := HB4.out.size
  have hx7 : w7.heap[w4.heap.size]? = some (.cells #[.int .i64 0, .slice A1 S0.ns.length c1, .slice B1 S0.cs.length d1, .slice C1 S0.ks.length e1] 27 (0, 0)) := (hb67.block _ (by omega)).trans HX6.out
  have hb47 : Below w4.heap.size w4 w7 := ((Below.refl _ _).alloc (Nat.le_refl _) _).trans (HB6.out.mono (by simp)) |>.trans (hb67.mono (by omega))
  have HN47 : Hid (MemA w7 w7.heap.size (.agg #[.int .i64 0, .slice A1 S0.ns.length c1, .slice B1 S0.cs.length d1, .slice C1 S0.ks.length e1]) 0 S0) := HN4.out.after hb47 (Nat.le_refl _)
  have HN67 : Hid (MemA w7 w7.heap.size (.agg #[.int .i64 0, .slice A2 S0.ns.length c2, .slice B2 S0.cs.length d2, .slice C2 S0.ks.length e2]) 0 S0) := HN6.out.after hb67 (Nat.le_refl _)
  have HB7 : Hid (Below w1.heap.size w1 w7) := HB4.out.trans (hb47.mono hs14)
  have HX7 := Lib.hid hx7
  have HY7 := Lib.hid hy7
  have x0 := row_cell hx7 0
  have x1 := row_cell hx7 1
  have x2 := row_cell hx7 2
  have x3 := row_cell hx7 3
  have y0 := row_cell hy7 0
  have y1 := row_cell hy7 1
  have y2 := row_cell hy7 2
  have y3 := row_cell hy7 3
  simp only [List.getElem?_toArray, List.getElem?_cons_succ, List.getElem?_cons_zero] at x0 x1 x2 x3 y0 y1 y2 y3
  have hxl : w4.heap.size < w7.heap.size := by omega
  have hyl : w6.heap.size < w7.heap.size := by omega
  have hxy : w4.heap.size ≠ w6.heap.size := by omega
  have hnx : w.heap.size ≠ w4.heap.size := by omega
  have hny : w.heap.size ≠ w6.heap.size := by omega
  have hx1 : w1.heap.size ≤ w4.heap.size := hs14
  have hy1 : w1.heap.size ≤ w6.heap.size := by omega
  rw [hw7]
  clear hw7 hb67 hy7 hs7 hs46 hs14 hx7 hb47 HX6 HN4 HN6 HB6 HB4
  generalize w4.heap.size = xb at *
  generalize w6.heap.size = yb at *
  go_upto_region 9 with (go_at_call 17; refine (same_mem _ _ 0 S0 _ HN47.out HN67.out).mono ?_; rintro e w8 ⟨rfl, hb8⟩; have HB8 := Lib.hid hb8; have HX8 := Lib.hid ((hb8.block _ hxl).trans HX7.out); have HY8 := Lib.hid ((hb8.block _ hyl).trans HY7.out); have hs78 := hb8.size; clear hb8)
  have HB18 : Hid (Below w1.heap.size w1 w8) := HB7.out.trans (HB8.out.mono HB7.out.size)
  obtain ⟨t0, t1, t2, t3⟩ := HT.out w8 HB18.out
  go_upto_region 10 with (go_at_call 35; refine (tick_o A lc l _ t s R rc row _ (HH.out _ HB18.out) (HM.out _ HB18.out) (HR.out _ HB18.out)).mono ?_; rintro e w9 ⟨⟨v9, rfl, hN9⟩, hb9⟩; rw [HEE.out]; rw [HTT.out, HSS.out] at hN9; obtain ⟨P1, p1, P2, p2, P3, p3, rfl, _⟩ := hN9.mem; have hx9 := (hb9.block xb (by omega)).trans HX8.out; have u0 := row_cell hx9 0; have u1 := row_cell hx9 1; have u2 := row_cell hx9 2; have u3 := row_cell hx9 3; have z0 := row_frozen hx9 0; have z1 := row_frozen hx9 1; have z2 := row_frozen hx9 2; have z3 := row_frozen hx9 3; simp only [List.getElem?_toArray, List.getElem?_cons_succ, List.getElem?_cons_zero] at u0 u1 u2 u3; have HX9 := Lib.hid hx9; have HN9 := Lib.hid hN9; have HB9 := Lib.hid hb9; clear hx9 hN9 hb9 t0 t1 t2 t3)
  obtain ⟨wA, hwA⟩ : ∃ wA, ((((w9.setCell ⟨xb, 0, none⟩ (.int .i64 T)).setCell ⟨xb, 1, none⟩ (.slice P1 S.ns.length p1)).setCell ⟨xb, 2, none⟩ (.slice P2 S.cs.length p2)).setCell ⟨xb, 3, none⟩ (.slice P3 S.ks.length p3)) = wA := ⟨_, rfl⟩
  have hxA : wA.heap[xb]? = some (.cells #[.int .i64 T, .slice P1 S.ns.length p1, .slice P2 S.cs.length p2, .slice P3 S.ks.length p3] 27 (0, 0)) := by rw [← hwA]; exact put4 HX9.out
  have hkA : ∀ b, b ≠ xb → wA.heap[b]? = w9.heap[b]? := fun b hb => by rw [← hwA]; exact heap_put4 hb _ _ _ _
  have hsA : wA.heap.size = w9.heap.size := by rw [← hwA]; simp
  have hs89 := HB9.out.size
  have hyA : wA.heap[yb]? = some (.cells #[.int .i64 0, .slice A2 S0.ns.length c2, .slice B2 S0.cs.length d2, .slice C2 S0.ks.length e2] 27 (0, 0)) := (hkA yb (Ne.symm hxy)).trans ((HB9.out.block yb (by omega)).trans HY8.out)
  have HBA : Hid (Below w1.heap.size w1 wA) := by show Below _ _ _; rw [← hwA]; exact below_put4 (HB18.out.trans (HB9.out.mono HB18.out.size)) hx1 _ _ _ _
  have HNA : Hid (MemN wA w8.heap.size (.agg #[.int .i64 T, .slice P1 S.ns.length p1, .slice P2 S.cs.length p2, .slice P3 S.ks.length p3]) T S) := HN9.out.moved (by omega) fun b hb _ => hkA b (by omega)
  have HXA := Lib.hid hxA
  have HYA := Lib.hid hyA
  rw [hwA]
  obtain ⟨t0, t1, t2, t3⟩ := HT.out wA HBA.out
  clear hwA hxA hkA hyA u0 u1 u2 u3 z0 z1 z2 z3
  have hxa : xb < wA.heap.size := by omega
  have hya : yb < wA.heap.size := by omega
  have h8a : w8.heap.size ≤ wA.heap.size := by omega
  go_upto_region 11 with (go_at_call 36; refine (tick_rr A lc l _ t s R rc row _ (HH.out _ HBA.out) (HM.out _ HBA.out) (HR.out _ HBA.out)).mono ?_; rintro e wB ⟨⟨vB, rfl, hNB⟩, hbB⟩; rw [HEE.out]; rw [HTT.out, HSS.out] at hNB; obtain ⟨Q1, q1, Q2, q2, Q3, q3, rfl, _⟩ := hNB.mem; have hxB := (hbB.block yb hya).trans HYA.out; have u0 := row_cell hxB 0; have u1 := row_cell hxB 1; have u2 := row_cell hxB 2; have u3 := row_cell hxB 3; have z0 := row_frozen hxB 0; have z1 := row_frozen hxB 1; have z2 := row_frozen hxB 2; have z3 := row_frozen hxB 3; simp only [List.getElem?_toArray, List.getElem?_cons_succ, List.getElem?_cons_zero] at u0 u1 u2 u3; have HYB := Lib.hid hxB; have HNB := Lib.hid hNB; have HBB := Lib.hid hbB; clear hxB hNB hbB t0 t1 t2 t3)
  obtain ⟨wC, hwC⟩ : ∃ wC, ((((wB.setCell ⟨yb, 0, none⟩ (.int .i64 T)).setCell ⟨yb, 1, none⟩ (.slice Q1 S.ns.length q1)).setCell ⟨yb, 2, none⟩ (.slice Q2 S.cs.length q2)).setCell ⟨yb, 3, none⟩ (.slice Q3 S.ks.length q3)) = wC := ⟨_, rfl⟩
  have hyC : wC.heap[yb]? = some (.cells #[.int .i64 T, .slice Q1 S.ns.length q1, .slice Q2 S.cs.length q2, .slice Q3 S.ks.length q3] 27 (0, 0)) := by rw [← hwC]; exact put4 HYB.out
  have hkC : ∀ b, b ≠ yb → wC.heap[b]? = wB.heap[b]? := fun b hb => by rw [← hwC]; exact heap_put4 hb _ _ _ _
  have hsC : wC.heap.size = wB.heap.size := by rw [← hwC]; simp
  have hsAB := HBB.out.size
  have hxC : wC.heap[xb]? = some (.cells #[.int .i64 T, .slice P1 S.ns.length p1, .slice P2 S.cs.length p2, .slice P3 S.ks.length p3] 27 (0, 0)) := (hkC xb hxy).trans ((HBB.out.block xb hxa).trans HXA.out)
  have HBC : Hid (Below w1.heap.size w1 wC) := by show Below _ _ _; rw [← hwC]; exact below_put4 (HBA.out.trans (HBB.out.mono HBA.out.size)) hy1 _ _ _ _
  have HMX : Hid (MemA wC wC.heap.size (.agg #[.int .i64 T, .slice P1 S.ns.length p1, .slice P2 S.cs.length p2, .slice P3 S.ks.length p3]) T S) := HNA.out wC (by omega) fun b hb hl => (hkC b (by omega)).trans (HBB.out.block b hl)
  have HMY : Hid (MemA wC wC.heap.size (.agg #[.int .i64 T, .slice Q1 S.ns.length q1, .slice Q2 S.cs.length q2, .slice Q3 S.ks.length q3]) T S) := HNB.out wC (by omega) fun b hb hl => hkC b (by omega)
  rw [hwC]
  have x0 := row_cell hxC 0
  have x1 := row_cell hxC 1
  have x2 := row_cell hxC 2
  have x3 := row_cell hxC 3
  have y0 := row_cell hyC 0
  have y1 := row_cell hyC 1
  have y2 := row_cell hyC 2
  have y3 := row_cell hyC 3
  simp only [List.getElem?_toArray, List.getElem?_cons_succ, List.getElem?_cons_zero] at x0 x1 x2 x3 y0 y1 y2 y3
  clear hwC hyC hkC hxC u0 u1 u2 u3 z0 z1 z2 z3
  go_wp2_with (first
    | (go_at_call 17; refine (same_mem _ _ T S _ HMX.out HMY.out).mono ?_; rintro e wD ⟨rfl, hbD⟩; have HBD := Lib.hid (HBC.out.trans (hbD.mono HBC.out.size)); clear hbD)
    | (go_at_call 18; refine (works_any _ (HTW.out _ HBD.out)).mono ?_; rintro e wE ⟨rfl, hbE⟩; have HBE := Lib.hid (HBD.out.trans (hbE.mono HBD.out.size)); clear hbE))
  go_ret
  exact ⟨rfl, HX.out _ HBE.out⟩
end Go.Proofs.YtonpemikodajdaaDoor
