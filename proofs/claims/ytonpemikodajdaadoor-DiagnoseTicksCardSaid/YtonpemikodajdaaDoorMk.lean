/- Walks: the reference's tick, Tick. -/
import Derived.Test.YtonpemikodajdaaDoorMg
import Derived.Test.YtonpemikodajdaaDoorMj
import Derived.Test.YtonpemikodajdaaDoorMc
namespace Go.Proofs.YtonpemikodajdaaDoor
open Go.RowKit

/-- all frames are rows -/
def FrOk (s : WSt) : Prop := ∀ c ∈ s.ks, 0 < c.frame.length ∧ c.frame.length ≤ 1000
theorem FrOk.coded {l : List MMon} {tick : Int} {row : List Int} {i : Nat} {s : WSt} (h : FrOk s) (hr : 0 < row.length ∧ row.length ≤ 1000) (hx : hasS s.ks i = true → findS s.ks i < s.ks.length) : FrOk (codeOf l tick row i s) := by
  unfold codeOf
  split
  · split
    · rename_i hh
      split
      · exact h
      · intro c hc
        rcases mem_set_or hc with rfl | hc
        · exact h (s.ks.getD (findS s.ks i) dCode) (getD_mem (hx hh))
        · exact h c hc
    · intro c hc
      rcases List.mem_append.1 hc with hc | hc
      · exact h c (List.mem_of_mem_take hc)
      · rcases List.mem_cons.1 hc with rfl | hc
        · exact hr
        · exact h c (List.mem_of_mem_drop hc)
  · split
    · rename_i hh
      intro c hc
      rcases mem_set_or hc with rfl | hc
      · exact h (s.ks.getD (findS s.ks i) dCode) (getD_mem (hx hh.2))
      · exact h c hc
    · exact h
theorem FrOk.calmed {l : List MMon} {i : Nat} {s : WSt} (h : FrOk s) : FrOk (calmOf l i s) := by
  unfold calmOf
  split
  · split
    · exact fun c hc => h c (List.mem_of_mem_eraseIdx hc)
    · exact h
  · exact h
theorem FrOk.steps {l : List MMon} {tick : Int} {row : List Int} {s : WSt} (h : FrOk s) (hs : SOk l s) (hm : monsB l = true) (hr : 0 < row.length ∧ row.length ≤ 1000) : ∀ i, i ≤ l.length → FrOk (stepsOf l tick row s i)
  | 0, _ => h
  | i + 1, hi => by
    have h1 := FrOk.steps h hs hm hr (tick := tick) i (by omega)
    have h2 := (hs.steps hm tick row i (by omega)).cnted hm (show i < l.length by omega) row
    exact FrOk.calmed (FrOk.coded (s := cntOf l row i (stepsOf l tick row s i)) h1 hr fun hh => (has_at (h2.ascC (monsB_len hm)) hh).1)
theorem law_len {l : List MMon} {row : List Int} (h : lawB l row = true) : 0 < row.length ∧ row.length ≤ 1000 := by
  unfold lawB inB at h
  simp only [Bool.and_eq_true, decide_eq_true_eq] at h
  omega
theorem FrOk.ticked {l : List MMon} {tick : Int} {row : List Int} {s : WSt} (h : FrOk s) (hs : SOk l s) (hm : monsB l = true) (hlaw : lawB l row = true) : FrOk (tickOf l tick row s) := h.steps hs hm (law_len hlaw) _ (Nat.le_refl _)
set_option maxRecDepth 100000 in
set_option maxHeartbeats 4000000 in
theorem tick_r (v : Value) (t : Int) (s : WSt) (A : Option Addr) (lc : Nat) (l : List MMon) (R : Option Addr) (rc : Nat) (row : List Int) (w : World) (hm : MemA w w.heap.size v t s) (h : MonsA w w.heap.size A l) (hr : IntsA w w.heap.size R row) (hs : SOk l s) (hf : FrOk s) (hmb : monsB l = true) (hlaw : lawB l row = true) (htk : 0 ≤ t ∧ t ≤ 1000000) :
    Calls Tryd.prog 56 #[.slice A l.length lc, v, .slice R row.length rc] w fun e w' => ∃ v', e = .returned v' ∧ MOwn w' w.heap.size v' (t + 1) (tickOf l t row s) ∧ Below w.heap.size w w' := by
  have hl20 := monsB_len hmb
  obtain ⟨Ac, cc, Ak, ck, Av, cv, rfl, hI1, hI2, hC, hcc, hck, hcv⟩ := hm
  have hM : MemA w w.heap.size (.agg #[.int .i64 t, .slice Ac s.ns.length cc, .slice Ak s.cs.length ck, .slice Av s.ks.length cv]) t s := ⟨Ac, cc, Ak, ck, Av, cv, rfl, hI1, hI2, hC, hcc, hck, hcv⟩
  obtain ⟨w1, hw1⟩ : ∃ w1, w1 = (w.alloc (.cells #[.int .i64 t, .slice Ac s.ns.length cc, .slice Ak s.cs.length ck, .slice Av s.ks.length cv] 27)).alloc (.cells #[.int .i64 0, .slice none 0 0, .slice none 0 0, .slice none 0 0] 27) := ⟨_, rfl⟩
  have hb1 : Below w.heap.size w w1 := by rw [hw1]; exact ((Below.refl _ _).alloc (Nat.le_refl _) _).alloc (by simp) _
  have hs1 : w1.heap.size = w.heap.size + 2 := by rw [hw1]; simp
  have hh1 : w1.heap[w.heap.size]? = some (.cells #[.int .i64 t, .slice Ac s.ns.length cc, .slice Ak s.cs.length ck, .slice Av s.ks.length cv] 27 (0, 0)) := by rw [hw1]; exact (Below.heap_alloc _ _ _ (by simp)).trans (heap_alloc_new w _)
  have hh2 : w1.heap[w.heap.size + 1]? = some (.cells #[.int .i64 0, .slice none 0 0, .slice none 0 0, .slice none 0 0] 27 (0, 0)) := by
    have := heap_alloc_new (w.alloc (.cells #[.int .i64 t, .slice Ac s.ns.length cc, .slice Ak s.cs.length ck, .slice Av s.ks.length cv] 27)) (.cells #[.int .i64 0, .slice none 0 0, .slice none 0 0, .slice none 0 0] 27)
    rw [hw1]
    simpa using this
  have b0 := row_cell hh1 0
  have b1 := row_cell hh1 1
  have b2 := row_cell hh1 2
  have b3 := row_cell hh1 3
  simp only [List.getElem?_toArray, List.getElem?_cons_succ, List.getElem?_cons_zero] at b0 b1 b2 b3
  have HC := Lib.hid (copied_any _ t s w1 ((hM.keep hb1).more hb1.size) (by rw [hs.ns, hs.cs]) (by rw [hs.ns]; omega) hf (by rw [hs.ns]; exact hs.few hl20))
  have HMO := Lib.hid ((h.keep hb1).more hb1.size)
  have HRO := Lib.hid ((hr.keep hb1).more hb1.size)
  have HB1 := Lib.hid hb1
  have HH2 := Lib.hid hh2
  have HSO := Lib.hid hs
  have hwf := hw1.symm
  have HSZ := Lib.hid hs1
  clear hI1 hI2 hC hM h hr hb1 hh1 hh2 hw1 hs
  go_enter Tryd.func56, Tryd.ntmps56
  have hkk : s.ks.length ≤ 1000000 := by have := HSO.out.few hl20; omega
  go_wp2_with (go_at_call 92; refine HC.out.mono ?_; rintro e w3 ⟨v', rfl, hMO, hb3⟩; obtain ⟨A1, c1, A2, c2, A3, c3, rfl, _⟩ := hMO.mem hkk; have HMW := Lib.hid hMO; have HB3 := Lib.hid hb3; clear hMO hb3)
  obtain ⟨W4, hW4⟩ : ∃ W4, W4 = w3.alloc (.cells #[.int .i64 t, .slice A1 s.ns.length c1, .slice A2 s.cs.length c2, .slice A3 s.ks.length c3] 27) := ⟨_, rfl⟩
  rw [← hW4]
  have hB34 : Below w3.heap.size w3 W4 := by rw [hW4]; exact (Below.refl _ _).alloc (Nat.le_refl _) _
  have hB14 : Below w1.heap.size w1 W4 := HB3.out.trans (hB34.mono HB3.out.size)
  obtain ⟨VC, VK, V, K, hKs, hRS⟩ := HMW.out.rs (mb := w3.heap.size) (Nat.le_refl _) ⟨_, _, _, rfl, by rw [hW4]; exact heap_alloc_new w3 _⟩ hB34 HB3.out.size
  have hT0 : RT W4 w1.heap.size w3.heap.size t s := ⟨VC, VK, V, K, hKs, hRS⟩
  have HT0 := Lib.hid hT0
  have HB14 := Lib.hid hB14
  clear hT0 hB14 hB34 hRS hKs hW4 HMW HC b0 b1 b2 b3 hwf
  generalize w3.heap.size = mb at *
  go_loopw [8] (fun vi wr => ∃ k : Nat, k ≤ l.length ∧ vi = .int .i64 k ∧ Hid (RT wr w1.heap.size mb t (stepsOf l t row s k)) ∧ Below w1.heap.size w1 wr) (fun vi _ => l.length - (intOf vi).toNat)
  case atStart => exact ⟨0, Nat.zero_le _, rfl, HT0, HB14.out⟩
  case round =>
    obtain ⟨k, hk, rfl, HT, hbw⟩ := hrel
    by_cases hlt : k < l.length
    · have HST := Lib.hid (step_any lc rc HT.out (HSO.out.steps hmb t row k (by omega)) hmb hlaw hlt htk (HMO.out.keep hbw) (HRO.out.keep hbw))
      go_wp2_with (go_at_call 93; refine HST.out.mono ?_; rintro e w5 ⟨rfl, hT5, hb5⟩; have HT5 := Lib.hid hT5; clear hT5)
      go_roundw
      case rel => exact ⟨k + 1, by omega, by go_num, HT5, hbw.trans hb5⟩
      case measure => simp [intOf]; omega
    · obtain rfl : k = l.length := by omega
      have HSE := Lib.hid (HSO.out.ticked hmb t row)
      obtain ⟨VC5, VK5, V5, K5, hK5, hR5⟩ := HT.out
      have hfew := (HSO.out.steps hmb t row l.length (Nat.le_refl _)).few hl20
      have hK5l : K5.length ≤ 1000000 := by have := congrArg List.length hK5; rw [List.length_map] at this; omega
      have g0 := hR5.g 0
      have f0 := hR5.fz 0
      have hR6 := hR5.setTick (t + 1)
      obtain ⟨B1, d1, B2, d2, B3, d3, e, _⟩ := hR6.mem hK5l
      injection e with e
      simp only [Array.mk.injEq, List.cons.injEq, and_true, true_and] at e
      obtain ⟨rfl, rfl, rfl⟩ := e
      have r0 := hR6.g 0
      have r1 := hR6.g 1
      have r2 := hR6.g 2
      have r3 := hR6.g 3
      have hmbB : w.heap.size + 1 < mb := by have := hR5.bm; omega
      have hz : (wr.setCell ⟨mb, 0, none⟩ (.int .i64 (t + 1))).heap[w.heap.size + 1]? = _ := (Below.heap_setCell wr ⟨mb, 0, none⟩ _ (w.heap.size + 1) (by show _ ≠ mb; omega)).trans ((hbw.block (w.heap.size + 1) (by omega)).trans HH2.out)
      have z0 := row_cell hz 0
      have z1 := row_cell hz 1
      have z2 := row_cell hz 2
      have z3 := row_cell hz 3
      have y0 := row_frozen hz 0
      have y1 := row_frozen hz 1
      have y2 := row_frozen hz 2
      have y3 := row_frozen hz 3
      simp only [List.getElem?_toArray, List.getElem?_cons_succ, List.getElem?_cons_zero] at g0 r0 r1 r2 r3 z0 z1 z2 z3
      have hB6 : Below w.heap.size w (wr.setCell ⟨mb, 0, none⟩ (.int .i64 (t + 1))) := (HB1.out.trans (hbw.mono (by omega))).setCell (p := ⟨mb, 0, none⟩) (by show _ ≤ mb; omega) _
      have HZ := Lib.hid hz
      have HB6 := Lib.hid hB6
      have HR6 := Lib.hid hR6
      have HK5 := Lib.hid hK5
      clear hz hB6 hR6 hR5 hK5 HT hfew hK5l
      go_wp2_with fail
      obtain ⟨d, hu⟩ := mem_under
      (try simp only [Exit.inBlock, Exit.then])
      refine bodyPost_ret (results_cell_row rfl _ _ (w.heap.size + 1) 27 _ (0, 0) (.struct d) rfl (put4 HZ.out) hu rfl mem_info) rfl ⟨_, rfl, ?_, below_put4 HB6.out (Nat.le_succ _) _ _ _ _⟩
      have hOW := HR6.out.own
      rw [List.length_map, HK5.out] at hOW
      have hk9 : ∀ b, w1.heap.size ≤ b → b ≠ w.heap.size + 1 := fun b hb => by have := HSZ.out; omega
      exact (hOW.keepH (fun b hb _ => heap_put4 (hk9 b hb) _ _ _ _) (by simp)).base (show w.heap.size ≤ w1.heap.size by have := HSZ.out; omega)
end Go.Proofs.YtonpemikodajdaaDoor
