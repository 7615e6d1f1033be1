/- Walks: Begin and Tick, ours and the reference's. Printed by gen_tl.py. -/
import Derived.Test.YtonpemikodajdaaDoorTk
import Derived.Test.YtonpemikodajdaaDoorMl
namespace Go.Proofs.YtonpemikodajdaaDoor
open Go.RowKit

def begS (l : List MMon) : WSt := if monsB l = true then begOf l else ⟨[], [], []⟩
def BegV (w : World) (l : List MMon) (e : Ending) (w' : World) : Prop :=
  (∃ v, e = .returned (.tuple #[v, .int .i64 (checkM l)]) ∧ MemN w' w.heap.size v 0 (begS l)) ∧ Below w.heap.size w w'
set_option maxRecDepth 100000 in
set_option maxHeartbeats 1000000 in
theorem begin_o (A : Option Addr) (lc : Nat) (l : List MMon) (w : World) (h : MonsA w w.heap.size A l) : Calls Tryd.prog 33 #[.slice A l.length lc] w (BegV w l) := by
  have hb1 : Below w.heap.size w (w.alloc (.cells #[.int .i64 0, .slice none 0 0, .slice none 0 0, .slice none 0 0] 27)) := (Below.refl _ _).alloc (Nat.le_refl _) _
  have hz := heap_alloc_new w (.cells #[.int .i64 0, .slice none 0 0, .slice none 0 0, .slice none 0 0] 27)
  obtain ⟨w1, hw1⟩ : ∃ w1, w.alloc (.cells #[.int .i64 0, .slice none 0 0, .slice none 0 0, .slice none 0 0] 27) = w1 := ⟨_, rfl⟩
  have hs1 : w1.heap.size = w.heap.size + 1 := by rw [← hw1]; simp
  rw [hw1] at hz hb1
  have HB1 := Lib.hid hb1
  have HZ : Hid (∀ W, Below w1.heap.size w1 W → W.heap[w.heap.size]? = some (.cells #[.int .i64 0, .slice none 0 0, .slice none 0 0, .slice none 0 0] 27 (0, 0))) := fun W hW => (hW.block _ (by omega)).trans hz
  have HSZ := Lib.hid hs1
  have HH := Lib.hid ((h.keep hb1).more hb1.size)
  have HLM : Hid (monsB l = true → l.length ≤ 20) := monsB_len
  clear h hb1 hz hs1
  rcases hm : monsB l
  · have HC : Hid (Calls Tryd.prog 32 #[.slice A l.length lc] w1 fun e w' => e = .returned (.int .i64 100) ∧ Below w1.heap.size w1 w') := mcheck_any A lc l w1 HH.out (by unfold checkM; rw [if_neg (by rw [hm]; decide)])
    have HM := Lib.hid hm
    clear hm
    go_enter Tryd.func33, Tryd.ntmps33
    go_wp2_with (go_at_call 32; refine HC.out.mono ?_; rintro e w2 ⟨rfl, hb2⟩; have hz := HZ.out w2 hb2; have z0 := row_cell hz 0; have z1 := row_cell hz 1; have z2 := row_cell hz 2; have z3 := row_cell hz 3; have y0 := row_frozen hz 0; have y1 := row_frozen hz 1; have y2 := row_frozen hz 2; have y3 := row_frozen hz 3; simp only [List.getElem?_toArray, List.getElem?_cons_succ, List.getElem?_cons_zero] at z0 z1 z2 z3)
    (try simp only [Exit.then, Exit.inBlock])
    refine bodyPost_ret (results_mem2 rfl _ _ w.heap.size _ _ _ _ _ rfl (put4 hz) rfl) rfl ⟨⟨_, by unfold checkM; rw [if_neg (by rw [HM.out]; decide)]; rfl, ?_⟩, below_put4 (HB1.out.trans (hb2.mono (by have := HSZ.out; omega))) (Nat.le_refl _) _ _ _ _⟩
    unfold begS
    rw [if_neg (by rw [HM.out]; decide)]
    exact MemN.zero _ _
  · have HC : Hid (Calls Tryd.prog 32 #[.slice A l.length lc] w1 fun e w' => e = .returned (.int .i64 0) ∧ Below w1.heap.size w1 w') := mcheck_any A lc l w1 HH.out (by unfold checkM; rw [if_pos hm])
    have HM := Lib.hid hm
    clear hm
    have hl20 := HLM.out HM.out
    go_enter Tryd.func33, Tryd.ntmps33
    go_wp2_with (first
      | (go_at_call 32; refine HC.out.mono ?_; rintro e w2 ⟨rfl, hb2⟩; have HB2 := Lib.hid hb2; clear hb2)
      | (go_at_call 52; refine (beg52 A lc l _ (by omega)).mono ?_; rintro e w3 ⟨VC, VK, rfl, hMO, hb3⟩; have hB3 : Below w1.heap.size w1 w3 := HB2.out.trans (hb3.mono HB2.out.size); have hz := HZ.out w3 hB3; obtain ⟨A1, c1, A2, c2, A3, c3, hfm⟩ := hMO.form; injection hfm with hfm; simp only [Array.mk.injEq, List.cons.injEq, and_true, true_and] at hfm; obtain ⟨e1, e2, e3⟩ := hfm; subst e1; subst e2; clear e3; have HMO := Lib.hid hMO; have HB3 := Lib.hid hB3; have hs2 := HB2.out.size; have z0 := row_cell hz 0; have z1 := row_cell hz 1; have z2 := row_cell hz 2; have z3 := row_cell hz 3; have y0 := row_frozen hz 0; have y1 := row_frozen hz 1; have y2 := row_frozen hz 2; have y3 := row_frozen hz 3; simp only [List.getElem?_toArray, List.getElem?_cons_succ, List.getElem?_cons_zero] at z0 z1 z2 z3; have HZ3 := Lib.hid hz; clear hMO hB3 hz hb3))
    (try simp only [Exit.then, Exit.inBlock])
    refine bodyPost_ret (results_mem2 rfl _ _ w.heap.size _ _ _ _ _ rfl (put4 HZ3.out) rfl) rfl ⟨⟨_, by unfold checkM; rw [if_pos HM.out]; rfl, ?_⟩, below_put4 (HB1.out.trans (HB3.out.mono (by have := HSZ.out; omega))) (Nat.le_refl _) _ _ _ _⟩
    unfold begS
    rw [if_pos HM.out]
    exact (MOwn.memN (B := w2.heap.size) (MOwn.keepH HMO.out (fun b hb _ => heap_put4 (by have := HSZ.out; omega) _ _ _ _) (by simp)) (by simp [begOf])).base (by have := HSZ.out; omega)
set_option maxRecDepth 100000 in
set_option maxHeartbeats 1000000 in
theorem begin_r (A : Option Addr) (lc : Nat) (l : List MMon) (w : World) (h : MonsA w w.heap.size A l) : Calls Tryd.prog 34 #[.slice A l.length lc] w (BegV w l) := by
  have hb1 : Below w.heap.size w (w.alloc (.cells #[.int .i64 0, .slice none 0 0, .slice none 0 0, .slice none 0 0] 27)) := (Below.refl _ _).alloc (Nat.le_refl _) _
  have hz := heap_alloc_new w (.cells #[.int .i64 0, .slice none 0 0, .slice none 0 0, .slice none 0 0] 27)
  obtain ⟨w1, hw1⟩ : ∃ w1, w.alloc (.cells #[.int .i64 0, .slice none 0 0, .slice none 0 0, .slice none 0 0] 27) = w1 := ⟨_, rfl⟩
  have hs1 : w1.heap.size = w.heap.size + 1 := by rw [← hw1]; simp
  rw [hw1] at hz hb1
  have HB1 := Lib.hid hb1
  have HZ : Hid (∀ W, Below w1.heap.size w1 W → W.heap[w.heap.size]? = some (.cells #[.int .i64 0, .slice none 0 0, .slice none 0 0, .slice none 0 0] 27 (0, 0))) := fun W hW => (hW.block _ (by omega)).trans hz
  have HSZ := Lib.hid hs1
  have HH := Lib.hid ((h.keep hb1).more hb1.size)
  have HLM : Hid (monsB l = true → l.length ≤ 20) := monsB_len
  clear h hb1 hz hs1
  rcases hm : monsB l
  · have HC : Hid (Calls Tryd.prog 23 #[.slice A l.length lc] w1 fun e w' => e = .returned (.int .i64 100) ∧ Below w1.heap.size w1 w') := rmcheck_any A lc l w1 HH.out (by unfold checkM; rw [if_neg (by rw [hm]; decide)])
    have HM := Lib.hid hm
    clear hm
    go_enter Tryd.func34, Tryd.ntmps34
    go_wp2_with (go_at_call 23; refine HC.out.mono ?_; rintro e w2 ⟨rfl, hb2⟩; have hz := HZ.out w2 hb2; have z0 := row_cell hz 0; have z1 := row_cell hz 1; have z2 := row_cell hz 2; have z3 := row_cell hz 3; have y0 := row_frozen hz 0; have y1 := row_frozen hz 1; have y2 := row_frozen hz 2; have y3 := row_frozen hz 3; simp only [List.getElem?_toArray, List.getElem?_cons_succ, List.getElem?_cons_zero] at z0 z1 z2 z3)
    (try simp only [Exit.then, Exit.inBlock])
    refine bodyPost_ret (results_mem2 rfl _ _ w.heap.size _ _ _ _ _ rfl (put4 hz) rfl) rfl ⟨⟨_, by unfold checkM; rw [if_neg (by rw [HM.out]; decide)]; rfl, ?_⟩, below_put4 (HB1.out.trans (hb2.mono (by have := HSZ.out; omega))) (Nat.le_refl _) _ _ _ _⟩
    unfold begS
    rw [if_neg (by rw [HM.out]; decide)]
    exact MemN.zero _ _
  · have HC : Hid (Calls Tryd.prog 23 #[.slice A l.length lc] w1 fun e w' => e = .returned (.int .i64 0) ∧ Below w1.heap.size w1 w') := rmcheck_any A lc l w1 HH.out (by unfold checkM; rw [if_pos hm])
    have HM := Lib.hid hm
    clear hm
    have hl20 := HLM.out HM.out
    go_enter Tryd.func34, Tryd.ntmps34
    go_wp2_with (first
      | (go_at_call 23; refine HC.out.mono ?_; rintro e w2 ⟨rfl, hb2⟩; have HB2 := Lib.hid hb2; clear hb2)
      | (go_at_call 55; refine (beg55 A lc l _ (by omega)).mono ?_; rintro e w3 ⟨VC, VK, rfl, hMO, hb3⟩; have hB3 : Below w1.heap.size w1 w3 := HB2.out.trans (hb3.mono HB2.out.size); have hz := HZ.out w3 hB3; obtain ⟨A1, c1, A2, c2, A3, c3, hfm⟩ := hMO.form; injection hfm with hfm; simp only [Array.mk.injEq, List.cons.injEq, and_true, true_and] at hfm; obtain ⟨e1, e2, e3⟩ := hfm; subst e1; subst e2; clear e3; have HMO := Lib.hid hMO; have HB3 := Lib.hid hB3; have hs2 := HB2.out.size; have z0 := row_cell hz 0; have z1 := row_cell hz 1; have z2 := row_cell hz 2; have z3 := row_cell hz 3; have y0 := row_frozen hz 0; have y1 := row_frozen hz 1; have y2 := row_frozen hz 2; have y3 := row_frozen hz 3; simp only [List.getElem?_toArray, List.getElem?_cons_succ, List.getElem?_cons_zero] at z0 z1 z2 z3; have HZ3 := Lib.hid hz; clear hMO hB3 hz hb3))
    (try simp only [Exit.then, Exit.inBlock])
    refine bodyPost_ret (results_mem2 rfl _ _ w.heap.size _ _ _ _ _ rfl (put4 HZ3.out) rfl) rfl ⟨⟨_, by unfold checkM; rw [if_pos HM.out]; rfl, ?_⟩, below_put4 (HB1.out.trans (HB3.out.mono (by have := HSZ.out; omega))) (Nat.le_refl _) _ _ _ _⟩
    unfold begS
    rw [if_pos HM.out]
    exact (MOwn.memN (B := w2.heap.size) (MOwn.keepH HMO.out (fun b hb _ => heap_put4 (by have := HSZ.out; omega) _ _ _ _) (by simp)) (by simp [begOf])).base (by have := HSZ.out; omega)
def tickE (l : List MMon) (t : Int) (s : WSt) (row : List Int) : Int := if monsB l = true then (if fitB l t s = true ∧ lawB l row = true then 0 else 1) else 100
def tickT (l : List MMon) (t : Int) (s : WSt) (row : List Int) : Int := if tickE l t s row = 0 then t + 1 else 0
def tickS (l : List MMon) (t : Int) (s : WSt) (row : List Int) : WSt := if tickE l t s row = 0 then tickOf l t row s else ⟨[], [], []⟩
def TickV (w : World) (l : List MMon) (t : Int) (s : WSt) (row : List Int) (e : Ending) (w' : World) : Prop :=
  (∃ v, e = .returned (.tuple #[v, .int .i64 (tickE l t s row)]) ∧ MemN w' w.heap.size v (tickT l t s row) (tickS l t s row)) ∧ Below w.heap.size w w'
theorem tick_bad {W : World} {B : Nat} {l : List MMon} {t : Int} {s : WSt} {row : List Int} (h : tickE l t s row ≠ 0) : MemN W B zeroMem (tickT l t s row) (tickS l t s row) := by
  unfold tickT tickS
  rw [if_neg h, if_neg h]
  exact MemN.zero _ _
theorem tick_good {W : World} {B : Nat} {l : List MMon} {t : Int} {s : WSt} {row : List Int} {v : Value} (h : tickE l t s row = 0) (hm : MemN W B v (t + 1) (tickOf l t row s)) : MemN W B v (tickT l t s row) (tickS l t s row) := by
  unfold tickT tickS
  rw [if_pos h, if_pos h]
  exact hm
set_option maxRecDepth 100000 in
set_option maxHeartbeats 2000000 in
theorem tick_o (A : Option Addr) (lc : Nat) (l : List MMon) (v : Value) (t : Int) (s : WSt) (R : Option Addr) (rc : Nat) (row : List Int) (w : World) (h : MonsA w w.heap.size A l) (hm : MemA w w.heap.size v t s) (hr : IntsA w w.heap.size R row) :
    Calls Tryd.prog 35 #[.slice A l.length lc, v, .slice R row.length rc] w (TickV w l t s row) := by
  obtain ⟨Ac, cc, Ak, ck, Av, cv, rfl, hMq⟩ := hm
  have hM : MemA w w.heap.size (.agg #[.int .i64 t, .slice Ac s.ns.length cc, .slice Ak s.cs.length ck, .slice Av s.ks.length cv]) t s := ⟨Ac, cc, Ak, ck, Av, cv, rfl, hMq⟩
  clear hMq
  obtain ⟨w1, hw1⟩ : ∃ w1, w1 = (w.alloc (.cells #[.int .i64 t, .slice Ac s.ns.length cc, .slice Ak s.cs.length ck, .slice Av s.ks.length cv] 27)).alloc (.cells #[.int .i64 0, .slice none 0 0, .slice none 0 0, .slice none 0 0] 27) := ⟨_, rfl⟩
  have hb1 : Below w.heap.size w w1 := by rw [hw1]; exact ((Below.refl _ _).alloc (Nat.le_refl _) _).alloc (by simp) _
  have hs1 : w1.heap.size = w.heap.size + 2 := by rw [hw1]; simp
  have hh1 : w1.heap[w.heap.size]? = some (.cells #[.int .i64 t, .slice Ac s.ns.length cc, .slice Ak s.cs.length ck, .slice Av s.ks.length cv] 27 (0, 0)) := by rw [hw1]; exact (Below.heap_alloc _ _ _ (by simp)).trans (heap_alloc_new w _)
  have hh2 : w1.heap[w.heap.size + 1]? = some (.cells #[.int .i64 0, .slice none 0 0, .slice none 0 0, .slice none 0 0] 27 (0, 0)) := by
    have := heap_alloc_new (w.alloc (.cells #[.int .i64 t, .slice Ac s.ns.length cc, .slice Ak s.cs.length ck, .slice Av s.ks.length cv] 27)) (.cells #[.int .i64 0, .slice none 0 0, .slice none 0 0, .slice none 0 0] 27)
    rw [hw1]
    simpa using this
  have hwf := hw1.symm
  have HB1 := Lib.hid hb1
  have HSZ := Lib.hid hs1
  have HX : Hid (∀ W, Below w1.heap.size w1 W → Below w.heap.size w W) := fun W hW => hb1.trans (hW.mono (by omega))
  have HZ : Hid (∀ W, Below w1.heap.size w1 W → W.heap[w.heap.size + 1]? = some (.cells #[.int .i64 0, .slice none 0 0, .slice none 0 0, .slice none 0 0] 27 (0, 0))) := fun W hW => (hW.block _ (by omega)).trans hh2
  have HT : Hid (∀ W, Below w1.heap.size w1 W → W.cell? ⟨w.heap.size, 0, none⟩ = some (.int .i64 t) ∧ W.cell? ⟨w.heap.size, 1, none⟩ = some (.slice Ac s.ns.length cc) ∧ W.cell? ⟨w.heap.size, 2, none⟩ = some (.slice Ak s.cs.length ck) ∧ W.cell? ⟨w.heap.size, 3, none⟩ = some (.slice Av s.ks.length cv)) := fun W hW => by
    have hh := (hW.block w.heap.size (by omega)).trans hh1
    exact ⟨row_cell hh 0, row_cell hh 1, row_cell hh 2, row_cell hh 3⟩
  have HH0 : Hid (∀ W, Below w.heap.size w W → MonsA W w.heap.size A l) := fun W hW => h.keep hW
  have HH : Hid (∀ W, Below w1.heap.size w1 W → MonsA W W.heap.size A l) := fun W hW => (h.keep (HX.out W hW)).more (HX.out W hW).size
  have HR : Hid (∀ W, Below w1.heap.size w1 W → IntsA W W.heap.size R row) := fun W hW => (hr.keep (HX.out W hW)).more (HX.out W hW).size
  have HM : Hid (∀ W, Below w1.heap.size w1 W → MemA W W.heap.size (.agg #[.int .i64 t, .slice Ac s.ns.length cc, .slice Ak s.cs.length ck, .slice Av s.ks.length cv]) t s) := fun W hW => (hM.keep (HX.out W hW)).more (HX.out W hW).size
  clear h hr hM hb1 hs1 hh1 hh2 hw1
  rcases hmb : monsB l
  · have HC : Hid (Calls Tryd.prog 32 #[.slice A l.length lc] w1 fun e w' => e = .returned (.int .i64 100) ∧ Below w1.heap.size w1 w') := mcheck_any A lc l w1 (HH.out _ (Below.refl _ _)) (by unfold checkM; rw [if_neg (by rw [hmb]; decide)])
    have hE : tickE l t s row = 100 := by unfold tickE; rw [if_neg (by rw [hmb]; decide)]
    have HE := Lib.hid hE
    clear hmb hE
    go_enter Tryd.func35, Tryd.ntmps35
    go_wp2_with (go_at_call 32; refine HC.out.mono ?_; rintro e w2 ⟨rfl, hb2⟩; have hz := HZ.out w2 hb2; have z0 := row_cell hz 0; have z1 := row_cell hz 1; have z2 := row_cell hz 2; have z3 := row_cell hz 3; have y0 := row_frozen hz 0; have y1 := row_frozen hz 1; have y2 := row_frozen hz 2; have y3 := row_frozen hz 3; simp only [List.getElem?_toArray, List.getElem?_cons_succ, List.getElem?_cons_zero] at z0 z1 z2 z3)
    (try simp only [Exit.then, Exit.inBlock])
    exact bodyPost_ret (results_mem2 rfl _ _ (w.heap.size + 1) _ _ _ _ _ rfl (put4 hz) rfl) rfl ⟨⟨_, by rw [HE.out]; rfl, tick_bad (by rw [HE.out]; decide)⟩, below_put4 (HX.out _ hb2) (Nat.le_succ _) _ _ _ _⟩
  have HC : Hid (Calls Tryd.prog 32 #[.slice A l.length lc] w1 fun e w' => e = .returned (.int .i64 0) ∧ Below w1.heap.size w1 w') := mcheck_any A lc l w1 (HH.out _ (Below.refl _ _)) (by unfold checkM; rw [if_pos hmb])
  have HMB := Lib.hid hmb
  clear hmb
  rcases hfb : fitB l t s
  · have hE : tickE l t s row = 1 := by unfold tickE; rw [if_pos HMB.out, if_neg (fun h => by rw [hfb] at h; exact absurd h.1 (by decide))]
    have HE := Lib.hid hE
    have HF := Lib.hid hfb
    clear hE hfb
    go_enter Tryd.func35, Tryd.ntmps35
    go_wp2_with (first
      | (go_at_call 32; refine HC.out.mono ?_; rintro e w2 ⟨rfl, hb2⟩; have HB2 := Lib.hid hb2; obtain ⟨t0, t1, t2, t3⟩ := HT.out w2 hb2; clear hb2)
      | (go_at_call 72; refine (fits_any A lc l _ t s _ (HH.out _ HB2.out) (HM.out _ HB2.out) HMB.out HF.out).mono ?_; rintro e w3 ⟨rfl, hb3⟩; have HB3 := Lib.hid (HB2.out.trans (hb3.mono HB2.out.size)); have hz := HZ.out w3 HB3.out; have z0 := row_cell hz 0; have z1 := row_cell hz 1; have z2 := row_cell hz 2; have z3 := row_cell hz 3; have y0 := row_frozen hz 0; have y1 := row_frozen hz 1; have y2 := row_frozen hz 2; have y3 := row_frozen hz 3; simp only [List.getElem?_toArray, List.getElem?_cons_succ, List.getElem?_cons_zero] at z0 z1 z2 z3))
    (try simp only [Exit.then, Exit.inBlock])
    exact bodyPost_ret (results_mem2 rfl _ _ (w.heap.size + 1) _ _ _ _ _ rfl (put4 hz) rfl) rfl ⟨⟨_, by rw [HE.out]; rfl, tick_bad (by rw [HE.out]; decide)⟩, below_put4 (HX.out _ HB3.out) (Nat.le_succ _) _ _ _ _⟩
  have HF := Lib.hid hfb
  clear hfb
  rcases hlb : lawB l row
  · have hE : tickE l t s row = 1 := by unfold tickE; rw [if_pos HMB.out, if_neg (fun h => by rw [hlb] at h; exact absurd h.2 (by decide))]
    have HE := Lib.hid hE
    have HL := Lib.hid hlb
    clear hE hlb
    go_enter Tryd.func35, Tryd.ntmps35
    go_wp2_with (first
      | (go_at_call 32; refine HC.out.mono ?_; rintro e w2 ⟨rfl, hb2⟩; have HB2 := Lib.hid hb2; obtain ⟨t0, t1, t2, t3⟩ := HT.out w2 hb2; clear hb2)
      | (go_at_call 72; refine (fits_any A lc l _ t s _ (HH.out _ HB2.out) (HM.out _ HB2.out) HMB.out HF.out).mono ?_; rintro e w3 ⟨rfl, hb3⟩; have HB3 := Lib.hid (HB2.out.trans (hb3.mono HB2.out.size)); clear hb3)
      | (go_at_call 51; refine (lawful_any A lc l R rc row _ (HH.out _ HB3.out) (HR.out _ HB3.out) HL.out).mono ?_; rintro e w4 ⟨rfl, hb4⟩; have HB4 := Lib.hid (HB3.out.trans (hb4.mono HB3.out.size)); have hz := HZ.out w4 HB4.out; have z0 := row_cell hz 0; have z1 := row_cell hz 1; have z2 := row_cell hz 2; have z3 := row_cell hz 3; have y0 := row_frozen hz 0; have y1 := row_frozen hz 1; have y2 := row_frozen hz 2; have y3 := row_frozen hz 3; simp only [List.getElem?_toArray, List.getElem?_cons_succ, List.getElem?_cons_zero] at z0 z1 z2 z3))
    (try simp only [Exit.then, Exit.inBlock])
    exact bodyPost_ret (results_mem2 rfl _ _ (w.heap.size + 1) _ _ _ _ _ rfl (put4 hz) rfl) rfl ⟨⟨_, by rw [HE.out]; rfl, tick_bad (by rw [HE.out]; decide)⟩, below_put4 (HX.out _ HB4.out) (Nat.le_succ _) _ _ _ _⟩
  have hE : tickE l t s row = 0 := by unfold tickE; rw [if_pos HMB.out, if_pos ⟨HF.out, hlb⟩]
  obtain ⟨hFO, ht0, ht1⟩ := FOk.of_fit HMB.out HF.out
  have HFO := Lib.hid hFO
  have HE := Lib.hid hE
  have HL := Lib.hid hlb
  have hl20 := monsB_len HMB.out
  clear hE hlb hFO
  go_enter Tryd.func35, Tryd.ntmps35
  go_upto_region 6 with (first
    | (go_at_call 32; refine HC.out.mono ?_; rintro e w2 ⟨rfl, hb2⟩; have HB2 := Lib.hid hb2; obtain ⟨t0, t1, t2, t3⟩ := HT.out w2 hb2; clear hb2)
    | (go_at_call 72; refine (fits_any A lc l _ t s _ (HH.out _ HB2.out) (HM.out _ HB2.out) HMB.out HF.out).mono ?_; rintro e w3 ⟨rfl, hb3⟩; have HB3 := Lib.hid (HB2.out.trans (hb3.mono HB2.out.size)); clear hb3)
    | (go_at_call 51; refine (lawful_any A lc l R rc row _ (HH.out _ HB3.out) (HR.out _ HB3.out) HL.out).mono ?_; rintro e w4 ⟨rfl, hb4⟩; have HB4 := Lib.hid (HB3.out.trans (hb4.mono HB3.out.size)); clear hb4))
  clear t0 t1 t2 t3
  obtain ⟨t0, t1, t2, t3⟩ := HT.out w4 HB4.out
  have hln : s.ns.length ≤ 1000 := by have := HFO.out.ok.ns; omega
  have hlc : s.cs.length ≤ 1000 := by have := HFO.out.ok.cs; omega
  have HFR : Hid (∀ c ∈ s.ks, c.frame.length ≤ 1000) := fun c hc => (HFO.out.frOk c hc).2
  have HCO : Hid (Calls Tryd.prog 73 #[.agg #[.int .i64 t, .slice Ac s.ns.length cc, .slice Ak s.cs.length ck, .slice Av s.ks.length cv]] w4 fun e w' => ∃ v', e = .returned v' ∧ MOwn w' w4.heap.size v' t s ∧ Below w4.heap.size w4 w') := copied_o _ t s w4 (HM.out _ HB4.out) hln hlc HFR.out
  go_upto_region 7 with (go_at_call 73; refine HCO.out.mono ?_; rintro e w5 ⟨v5, rfl, hMO, hb5⟩; obtain ⟨A1, c1, A2, c2, A3, c3, rfl⟩ := hMO.form; have HMO := Lib.hid hMO; have HB5' := Lib.hid hb5; have HB5 := Lib.hid (HB4.out.trans (hb5.mono HB4.out.size)); clear hMO hb5)
  obtain ⟨W, hW⟩ : ∃ W, w5.alloc (.cells #[.slice A l.length lc, .int .i64 t, .slice A1 s.ns.length c1, .slice A2 s.cs.length c2, .slice A3 s.ks.length c3] 88) = W := ⟨_, rfl⟩
  have hhW : W.heap[w5.heap.size]? = some (.cells #[.slice A l.length lc, .int .i64 t, .slice A1 s.ns.length c1, .slice A2 s.cs.length c2, .slice A3 s.ks.length c3] 88 (0, 0)) := by rw [← hW]; exact heap_alloc_new _ _
  have hbW : Below w5.heap.size w5 W := by rw [← hW]; exact (Below.refl _ _).alloc (Nat.le_refl _) _
  rw [hW]
  clear hW
  have hs5 := HB5'.out.size
  have hs4 := HB4.out.size
  have hB4W : Below w4.heap.size w4 W := HB5'.out.trans (hbW.mono hs5)
  have HTB := Lib.hid (tick_box (A := A) (R := R) (lc := lc) (rc := rc) HMO.out HFO.out.ok HMB.out HL.out ⟨ht0, ht1⟩ (Nat.le_refl _) hs5 hbW ((HH.out w4 HB4.out).below hB4W (Nat.le_refl _)) ((HR.out w4 HB4.out).below hB4W (Nat.le_refl _)) hhW)
  have HB4W := Lib.hid hB4W
  clear hhW hbW hB4W t0 t1 t2 t3
  go_wp2_with (go_at_call 53; refine HTB.out.mono ?_; rintro e w6 ⟨rfl, hb6, V0, D1, d1, D2, d2, D3, d3, hh6, hM6⟩; have k1 := row_cell hh6 1; have k2 := row_cell hh6 2; have k3 := row_cell hh6 3; have k4 := row_cell hh6 4; simp only [List.getElem?_toArray, List.getElem?_cons_succ, List.getElem?_cons_zero] at k1 k2 k3 k4; have HB6 := Lib.hid (HB4.out.trans (HB4W.out.trans hb6 |>.mono hs4)); have HM6 := Lib.hid hM6; have hz := HZ.out w6 HB6.out; have z0 := row_cell hz 0; have z1 := row_cell hz 1; have z2 := row_cell hz 2; have z3 := row_cell hz 3; have y0 := row_frozen hz 0; have y1 := row_frozen hz 1; have y2 := row_frozen hz 2; have y3 := row_frozen hz 3; simp only [List.getElem?_toArray, List.getElem?_cons_succ, List.getElem?_cons_zero] at z0 z1 z2 z3; have HZ6 := Lib.hid hz; have HB66 := Lib.hid hb6; clear hh6 hM6 hb6 hz)
  (try simp only [Exit.then, Exit.inBlock])
  refine bodyPost_ret (results_mem2 rfl _ _ (w.heap.size + 1) _ _ _ _ _ rfl (put4 HZ6.out) rfl) rfl ⟨⟨_, by rw [HE.out]; rfl, tick_good HE.out ?_⟩, below_put4 (HX.out _ HB6.out) (Nat.le_succ _) _ _ _ _⟩
  exact (HM6.out.moved (by simp) (fun b hb _ => heap_put4 (by have := HSZ.out; omega) _ _ _ _)).base (by have := HSZ.out; omega)
set_option maxRecDepth 100000 in
set_option maxHeartbeats 2000000 in
theorem tick_rr (A : Option Addr) (lc : Nat) (l : List MMon) (v : Value) (t : Int) (s : WSt) (R : Option Addr) (rc : Nat) (row : List Int) (w : World) (h : MonsA w w.heap.size A l) (hm : MemA w w.heap.size v t s) (hr : IntsA w w.heap.size R row) :
    Calls Tryd.prog 36 #[.slice A l.length lc, v, .slice R row.length rc] w (TickV w l t s row) := by
  obtain ⟨Ac, cc, Ak, ck, Av, cv, rfl, hMq⟩ := hm
  have hM : MemA w w.heap.size (.agg #[.int .i64 t, .slice Ac s.ns.length cc, .slice Ak s.cs.length ck, .slice Av s.ks.length cv]) t s := ⟨Ac, cc, Ak, ck, Av, cv, rfl, hMq⟩
  clear hMq
  obtain ⟨w1, hw1⟩ : ∃ w1, w1 = (w.alloc (.cells #[.int .i64 t, .slice Ac s.ns.length cc, .slice Ak s.cs.length ck, .slice Av s.ks.length cv] 27)).alloc (.cells #[.int .i64 0, .slice none 0 0, .slice none 0 0, .slice none 0 0] 27) := ⟨_, rfl⟩
  have hb1 : Below w.heap.size w w1 := by rw [hw1]; exact ((Below.refl _ _).alloc (Nat.le_refl _) _).alloc (by simp) _
  have hs1 : w1.heap.size = w.heap.size + 2 := by rw [hw1]; simp
  have hh1 : w1.heap[w.heap.size]? = some (.cells #[.int .i64 t, .slice Ac s.ns.length cc, .slice Ak s.cs.length ck, .slice Av s.ks.length cv] 27 (0, 0)) := by rw [hw1]; exact (Below.heap_alloc _ _ _ (by simp)).trans (heap_alloc_new w _)
  have hh2 : w1.heap[w.heap.size + 1]? = some (.cells #[.int .i64 0, .slice none 0 0, .slice none 0 0, .slice none 0 0] 27 (0, 0)) := by
    have := heap_alloc_new (w.alloc (.cells #[.int .i64 t, .slice Ac s.ns.length cc, .slice Ak s.cs.length ck, .slice Av s.ks.length cv] 27)) (.cells #[.int .i64 0, .slice none 0 0, .slice none 0 0, .slice none 0 0] 27)
    rw [hw1]
    simpa using this
  have hwf := hw1.symm
  have HB1 := Lib.hid hb1
  have HSZ := Lib.hid hs1
  have HX : Hid (∀ W, Below w1.heap.size w1 W → Below w.heap.size w W) := fun W hW => hb1.trans (hW.mono (by omega))
  have HZ : Hid (∀ W, Below w1.heap.size w1 W → W.heap[w.heap.size + 1]? = some (.cells #[.int .i64 0, .slice none 0 0, .slice none 0 0, .slice none 0 0] 27 (0, 0))) := fun W hW => (hW.block _ (by omega)).trans hh2
  have HT : Hid (∀ W, Below w1.heap.size w1 W → W.cell? ⟨w.heap.size, 0, none⟩ = some (.int .i64 t) ∧ W.cell? ⟨w.heap.size, 1, none⟩ = some (.slice Ac s.ns.length cc) ∧ W.cell? ⟨w.heap.size, 2, none⟩ = some (.slice Ak s.cs.length ck) ∧ W.cell? ⟨w.heap.size, 3, none⟩ = some (.slice Av s.ks.length cv)) := fun W hW => by
    have hh := (hW.block w.heap.size (by omega)).trans hh1
    exact ⟨row_cell hh 0, row_cell hh 1, row_cell hh 2, row_cell hh 3⟩
  have HH0 : Hid (∀ W, Below w.heap.size w W → MonsA W w.heap.size A l) := fun W hW => h.keep hW
  have HH : Hid (∀ W, Below w1.heap.size w1 W → MonsA W W.heap.size A l) := fun W hW => (h.keep (HX.out W hW)).more (HX.out W hW).size
  have HR : Hid (∀ W, Below w1.heap.size w1 W → IntsA W W.heap.size R row) := fun W hW => (hr.keep (HX.out W hW)).more (HX.out W hW).size
  have HM : Hid (∀ W, Below w1.heap.size w1 W → MemA W W.heap.size (.agg #[.int .i64 t, .slice Ac s.ns.length cc, .slice Ak s.cs.length ck, .slice Av s.ks.length cv]) t s) := fun W hW => (hM.keep (HX.out W hW)).more (HX.out W hW).size
  clear h hr hM hb1 hs1 hh1 hh2 hw1
  rcases hmb : monsB l
  · have HC : Hid (Calls Tryd.prog 23 #[.slice A l.length lc] w1 fun e w' => e = .returned (.int .i64 100) ∧ Below w1.heap.size w1 w') := rmcheck_any A lc l w1 (HH.out _ (Below.refl _ _)) (by unfold checkM; rw [if_neg (by rw [hmb]; decide)])
    have hE : tickE l t s row = 100 := by unfold tickE; rw [if_neg (by rw [hmb]; decide)]
    have HE := Lib.hid hE
    clear hmb hE
    go_enter Tryd.func36, Tryd.ntmps36
    go_wp2_with (go_at_call 23; refine HC.out.mono ?_; rintro e w2 ⟨rfl, hb2⟩; have hz := HZ.out w2 hb2; have z0 := row_cell hz 0; have z1 := row_cell hz 1; have z2 := row_cell hz 2; have z3 := row_cell hz 3; have y0 := row_frozen hz 0; have y1 := row_frozen hz 1; have y2 := row_frozen hz 2; have y3 := row_frozen hz 3; simp only [List.getElem?_toArray, List.getElem?_cons_succ, List.getElem?_cons_zero] at z0 z1 z2 z3)
    (try simp only [Exit.then, Exit.inBlock])
    exact bodyPost_ret (results_mem2 rfl _ _ (w.heap.size + 1) _ _ _ _ _ rfl (put4 hz) rfl) rfl ⟨⟨_, by rw [HE.out]; rfl, tick_bad (by rw [HE.out]; decide)⟩, below_put4 (HX.out _ hb2) (Nat.le_succ _) _ _ _ _⟩
  have HC : Hid (Calls Tryd.prog 23 #[.slice A l.length lc] w1 fun e w' => e = .returned (.int .i64 0) ∧ Below w1.heap.size w1 w') := rmcheck_any A lc l w1 (HH.out _ (Below.refl _ _)) (by unfold checkM; rw [if_pos hmb])
  have HMB := Lib.hid hmb
  clear hmb
  rcases hfb : fitB l t s
  · have hE : tickE l t s row = 1 := by unfold tickE; rw [if_pos HMB.out, if_neg (fun h => by rw [hfb] at h; exact absurd h.1 (by decide))]
    have HE := Lib.hid hE
    have HF := Lib.hid hfb
    clear hE hfb
    go_enter Tryd.func36, Tryd.ntmps36
    go_wp2_with (first
      | (go_at_call 23; refine HC.out.mono ?_; rintro e w2 ⟨rfl, hb2⟩; have HB2 := Lib.hid hb2; obtain ⟨t0, t1, t2, t3⟩ := HT.out w2 hb2; clear hb2)
      | (go_at_call 37; refine (rfits_any A lc l _ t s _ (HH.out _ HB2.out) (HM.out _ HB2.out) HMB.out HF.out).mono ?_; rintro e w3 ⟨rfl, hb3⟩; have HB3 := Lib.hid (HB2.out.trans (hb3.mono HB2.out.size)); have hz := HZ.out w3 HB3.out; have z0 := row_cell hz 0; have z1 := row_cell hz 1; have z2 := row_cell hz 2; have z3 := row_cell hz 3; have y0 := row_frozen hz 0; have y1 := row_frozen hz 1; have y2 := row_frozen hz 2; have y3 := row_frozen hz 3; simp only [List.getElem?_toArray, List.getElem?_cons_succ, List.getElem?_cons_zero] at z0 z1 z2 z3))
    (try simp only [Exit.then, Exit.inBlock])
    exact bodyPost_ret (results_mem2 rfl _ _ (w.heap.size + 1) _ _ _ _ _ rfl (put4 hz) rfl) rfl ⟨⟨_, by rw [HE.out]; rfl, tick_bad (by rw [HE.out]; decide)⟩, below_put4 (HX.out _ HB3.out) (Nat.le_succ _) _ _ _ _⟩
  have HF := Lib.hid hfb
  clear hfb
  rcases hlb : lawB l row
  · have hE : tickE l t s row = 1 := by unfold tickE; rw [if_pos HMB.out, if_neg (fun h => by rw [hlb] at h; exact absurd h.2 (by decide))]
    have HE := Lib.hid hE
    have HL := Lib.hid hlb
    clear hE hlb
    go_enter Tryd.func36, Tryd.ntmps36
    go_wp2_with (first
      | (go_at_call 23; refine HC.out.mono ?_; rintro e w2 ⟨rfl, hb2⟩; have HB2 := Lib.hid hb2; obtain ⟨t0, t1, t2, t3⟩ := HT.out w2 hb2; clear hb2)
      | (go_at_call 37; refine (rfits_any A lc l _ t s _ (HH.out _ HB2.out) (HM.out _ HB2.out) HMB.out HF.out).mono ?_; rintro e w3 ⟨rfl, hb3⟩; have HB3 := Lib.hid (HB2.out.trans (hb3.mono HB2.out.size)); clear hb3)
      | (go_at_call 54; refine (rlaw_any A lc l R rc row _ (HH.out _ HB3.out) (HR.out _ HB3.out) HL.out).mono ?_; rintro e w4 ⟨rfl, hb4⟩; have HB4 := Lib.hid (HB3.out.trans (hb4.mono HB3.out.size)); have hz := HZ.out w4 HB4.out; have z0 := row_cell hz 0; have z1 := row_cell hz 1; have z2 := row_cell hz 2; have z3 := row_cell hz 3; have y0 := row_frozen hz 0; have y1 := row_frozen hz 1; have y2 := row_frozen hz 2; have y3 := row_frozen hz 3; simp only [List.getElem?_toArray, List.getElem?_cons_succ, List.getElem?_cons_zero] at z0 z1 z2 z3))
    (try simp only [Exit.then, Exit.inBlock])
    exact bodyPost_ret (results_mem2 rfl _ _ (w.heap.size + 1) _ _ _ _ _ rfl (put4 hz) rfl) rfl ⟨⟨_, by rw [HE.out]; rfl, tick_bad (by rw [HE.out]; decide)⟩, below_put4 (HX.out _ HB4.out) (Nat.le_succ _) _ _ _ _⟩
  have hE : tickE l t s row = 0 := by unfold tickE; rw [if_pos HMB.out, if_pos ⟨HF.out, hlb⟩]
  obtain ⟨hFO, ht0, ht1⟩ := FOk.of_fit HMB.out HF.out
  have HFO := Lib.hid hFO
  have HE := Lib.hid hE
  have HL := Lib.hid hlb
  have hl20 := monsB_len HMB.out
  clear hE hlb hFO
  go_enter Tryd.func36, Tryd.ntmps36
  go_upto_region 6 with (first
    | (go_at_call 23; refine HC.out.mono ?_; rintro e w2 ⟨rfl, hb2⟩; have HB2 := Lib.hid hb2; obtain ⟨t0, t1, t2, t3⟩ := HT.out w2 hb2; clear hb2)
    | (go_at_call 37; refine (rfits_any A lc l _ t s _ (HH.out _ HB2.out) (HM.out _ HB2.out) HMB.out HF.out).mono ?_; rintro e w3 ⟨rfl, hb3⟩; have HB3 := Lib.hid (HB2.out.trans (hb3.mono HB2.out.size)); clear hb3)
    | (go_at_call 54; refine (rlaw_any A lc l R rc row _ (HH.out _ HB3.out) (HR.out _ HB3.out) HL.out).mono ?_; rintro e w4 ⟨rfl, hb4⟩; have HB4 := Lib.hid (HB3.out.trans (hb4.mono HB3.out.size)); clear hb4))
  clear t0 t1 t2 t3
  obtain ⟨t0, t1, t2, t3⟩ := HT.out w4 HB4.out
  go_wp2_with (go_at_call 56; refine (tick_r _ t s A lc l R rc row _ (HM.out _ HB4.out) (HH.out _ HB4.out) (HR.out _ HB4.out) HFO.out.ok HFO.out.frOk HMB.out HL.out ⟨ht0, ht1⟩).mono ?_; rintro e w5 ⟨v5, rfl, hMO, hb5⟩; obtain ⟨A1, c1, A2, c2, A3, c3, rfl⟩ := hMO.form; have HMO := Lib.hid hMO; have HB5 := Lib.hid (HB4.out.trans (hb5.mono HB4.out.size)); have hs4 := HB4.out.size; have hz := HZ.out w5 HB5.out; have z0 := row_cell hz 0; have z1 := row_cell hz 1; have z2 := row_cell hz 2; have z3 := row_cell hz 3; have y0 := row_frozen hz 0; have y1 := row_frozen hz 1; have y2 := row_frozen hz 2; have y3 := row_frozen hz 3; simp only [List.getElem?_toArray, List.getElem?_cons_succ, List.getElem?_cons_zero] at z0 z1 z2 z3; have HZ6 := Lib.hid hz; clear hMO hb5 hz)
  (try simp only [Exit.then, Exit.inBlock])
  refine bodyPost_ret (results_mem2 rfl _ _ (w.heap.size + 1) _ _ _ _ _ rfl (put4 HZ6.out) rfl) rfl ⟨⟨_, by rw [HE.out]; rfl, tick_good HE.out ?_⟩, below_put4 (HX.out _ HB5.out) (Nat.le_succ _) _ _ _ _⟩
  exact (MOwn.memN (B := w4.heap.size) (MOwn.keepH HMO.out (fun b hb _ => heap_put4 (by have := HSZ.out; omega) _ _ _ _) (by simp)) (by have := (HFO.out.ok.ticked HMB.out t row).few hl20; omega)).base (by have := HSZ.out; omega)
end Go.Proofs.YtonpemikodajdaaDoor
