/- Walks: numbers, the check of faults, the check of wanted users, the first error. -/
import Derived.Test.YtegclodchhcbaaaPe
import Derived.Test.YtegclodchhcbaaaLv
import Derived.Deep.RegionLaw
import Derived.Deep.RegionHeld3
namespace Go.Proofs.Ytegclodchhcbaaa
open Go.RowKit

theorem put4 {w : World} {g : Nat} {t : TypeId} {a b c d a' b' c' d' : Value} (h : w.heap[g]? = some (.cells #[a, b, c, d] t (0, 0))) :
    ((((w.setCell ⟨g, 0, none⟩ a').setCell ⟨g, 1, none⟩ b').setCell ⟨g, 2, none⟩ c').setCell ⟨g, 3, none⟩ d').heap[g]? = some (.cells #[a', b', c', d'] t (0, 0)) := by
  rw [heap_setCell_same _ g 3 _ t _ (heap_setCell_same _ g 2 _ t _ (heap_setCell_same _ g 1 _ t _ (heap_setCell_same w g 0 _ t _ h)))]
  rfl
theorem size109 : (Try.prog.info? 109).map (·.size) = some 4 := by kernel_rfl
def numC (g : MGrid) : Array Value := #[.int .i64 0, .int .i64 g.srcs.length, .int .i64 g.lines.length, .int .i64 g.nodes]
set_option maxRecDepth 100000 in
theorem numbers_any (g : MGrid) (A1 A2 A3 : Option Addr) (c1 c2 c3 : Nat) (w : World) :
    Calls Try.prog 85 #[.agg (gridC g A1 A2 A3 c1 c2 c3)] w fun e w' => e = .returned (.agg (numC g)) ∧ Below w.heap.size w w' := by
  unfold gridC
  obtain ⟨w1, hw1⟩ : ∃ w1, w.alloc (.cells #[.int .i64 g.nodes, .slice A1 g.lines.length c1, .slice A2 g.srcs.length c2, .slice A3 g.users.length c3] 26) = w1 := ⟨_, rfl⟩
  have hb1 : Below w.heap.size w w1 := by rw [← hw1]; exact (Below.refl _ _).alloc (Nat.le_refl _) _
  have hs1 : w1.heap.size = w.heap.size + 1 := by rw [← hw1]; simp
  have hx1 : w1.heap[w.heap.size]? = some (.cells #[.int .i64 g.nodes, .slice A1 g.lines.length c1, .slice A2 g.srcs.length c2, .slice A3 g.users.length c3] 26 (0, 0)) := by rw [← hw1]; exact heap_alloc_new w _
  obtain ⟨w2, hw2⟩ : ∃ w2, w1.alloc (.cells #[.int .i64 0, .int .i64 0, .int .i64 0, .int .i64 0] 109) = w2 := ⟨_, rfl⟩
  have hb2 : Below w1.heap.size w1 w2 := by rw [← hw2]; exact (Below.refl _ _).alloc (Nat.le_refl _) _
  have hx2 : w2.heap[w.heap.size + 1]? = some (.cells #[.int .i64 0, .int .i64 0, .int .i64 0, .int .i64 0] 109 (0, 0)) := by rw [← hw2, ← hs1]; exact heap_alloc_new w1 _
  have hx3 := (hb2.block w.heap.size (by omega)).trans hx1
  have p0 := cell_of_row w2 _ 0 _ _ _ hx3
  have p1 := cell_of_row w2 _ 1 _ _ _ hx3
  have p2 := cell_of_row w2 _ 2 _ _ _ hx3
  have z0 := cell_of_row w2 _ 0 _ _ _ hx2
  have z1 := cell_of_row w2 _ 1 _ _ _ hx2
  have z2 := cell_of_row w2 _ 2 _ _ _ hx2
  have z3 := cell_of_row w2 _ 3 _ _ _ hx2
  have y0 := row_frozen hx2 0
  have y1 := row_frozen hx2 1
  have y2 := row_frozen hx2 2
  have y3 := row_frozen hx2 3
  simp only [List.getElem?_toArray, List.getElem?_cons_succ, List.getElem?_cons_zero] at p0 p1 p2 z0 z1 z2 z3
  have HB := Lib.hid (hb1.trans (hb2.mono (by omega)))
  have HX2 := Lib.hid hx2
  clear hb1 hb2 hx1 hx2 hx3
  go_enter Try.func85, Try.ntmps85
  go_wp2_with fail
  exact bodyPost_ret (results_cell_row rfl _ _ (w.heap.size + 1) 109 _ (0, 0) (.array 4 3) rfl (put4 HX2.out) Try.underlying109 rfl size109) rfl ⟨rfl, (((HB.out.setCell (p := ⟨w.heap.size + 1, 0, none⟩) (Nat.le_succ _) _).setCell (p := ⟨w.heap.size + 1, 1, none⟩) (Nat.le_succ _) _).setCell (p := ⟨w.heap.size + 1, 2, none⟩) (Nat.le_succ _) _).setCell (p := ⟨w.heap.size + 1, 3, none⟩) (Nat.le_succ _) _⟩
theorem FaultsA.take {w : World} {B : Nat} {A : Option Addr} {l : List MFault} (h : FaultsA w B A l) {k : Nat} (hk : k ≤ l.length) : FaultsA w B A (l.take k) := by
  refine ⟨by rw [List.length_take]; have := h.1; omega, fun hn => ?_⟩
  rw [List.length_take] at hn
  obtain ⟨b, off, hA, hlt, hc⟩ := h.2 (by omega)
  refine ⟨b, off, hA, hlt, fun i j hi hj => ?_⟩
  rw [List.length_take] at hi
  rw [hc i j (by omega) hj]
  have e : (l.take k).getD i dFault = l.getD i dFault := by rw [List.getD_eq_getElem?_getD, List.getD_eq_getElem?_getD, List.getElem?_take_of_lt (by omega)]
  unfold faultCell
  rw [e]
theorem num_at (g : MGrid) {kind : Int} (h : inB kind 1 3 = true) : ∃ κ : Nat, kind = (κ : Int) ∧ κ < 4 ∧ (numC g)[κ]? = some (.int .i64 (numK g kind)) := by
  rw [inB_iff] at h
  have h3 : kind = 1 ∨ kind = 2 ∨ kind = 3 := by omega
  rcases h3 with rfl | rfl | rfl
  · exact ⟨1, rfl, by decide, rfl⟩
  · exact ⟨2, rfl, by decide, rfl⟩
  · exact ⟨3, rfl, by decide, rfl⟩
theorem upto_next {p : Nat → Prop} {k : Nat} (h : ∀ j, j < k → p j) (hk : p k) (j : Nat) (hj : j < k + 1) : p j := by
  by_cases e : j = k
  · rw [e]; exact hk
  · exact h j (by omega)
set_option maxRecDepth 100000 in
set_option maxHeartbeats 8000000 in
theorem checkF_any (g : MGrid) (A1 A2 A3 : Option Addr) (c1 c2 c3 : Nat) (A : Option Addr) (cap : Nat) (F : List MFault) (w : World) (h : GridA w w.heap.size g A1 A2 A3) (hf : FaultsA w w.heap.size A F) (hcap : F.length ≤ cap) (hn : 1 ≤ g.nodes ∧ g.nodes ≤ 20) {r : Int} (hr : checkF g F = r) :
    Calls Try.prog 54 #[.agg (gridC g A1 A2 A3 c1 c2 c3), .slice A F.length cap] w fun e w' => e = .returned (.int .i64 r) ∧ Below w.heap.size w w' := by
  have HNM := Lib.hid (fun wx => numbers_any g A1 A2 A3 c1 c2 c3 wx)
  unfold gridC at HNM ⊢
  unfold numC at HNM
  have hl1 := h.ls.1
  have hl2 := h.ss.1
  unfold maxLen at hl1 hl2
  have hl0 := hf.1
  unfold maxLen at hl0
  obtain ⟨w1, hw1⟩ : ∃ w1, w.alloc (.cells #[.int .i64 g.nodes, .slice A1 g.lines.length c1, .slice A2 g.srcs.length c2, .slice A3 g.users.length c3] 26) = w1 := ⟨_, rfl⟩
  have hb1 : Below w.heap.size w w1 := by rw [← hw1]; exact (Below.refl _ _).alloc (Nat.le_refl _) _
  have hs1 : w1.heap.size = w.heap.size + 1 := by rw [← hw1]; simp
  have hx1 : w1.heap[w.heap.size]? = some (.cells #[.int .i64 g.nodes, .slice A1 g.lines.length c1, .slice A2 g.srcs.length c2, .slice A3 g.users.length c3] 26 (0, 0)) := by rw [← hw1]; exact heap_alloc_new w _
  have p0 := cell_of_row w1 _ 0 _ _ _ hx1
  have p1 := cell_of_row w1 _ 1 _ _ _ hx1
  have p2 := cell_of_row w1 _ 2 _ _ _ hx1
  have p3 := cell_of_row w1 _ 3 _ _ _ hx1
  simp only [List.getElem?_toArray, List.getElem?_cons_succ, List.getElem?_cons_zero] at p0 p1 p2 p3
  have HR := Lib.hid hr
  have HFA : Hid (∀ W, Below w.heap.size w W → FaultsA W W.heap.size A F) := fun W hW => (hf.keep hW).more hW.size
  have HB1 := Lib.hid hb1
  clear h hf hr hb1 hx1
  by_cases hF : 10 < F.length
  · go_enter Try.func54, Try.ntmps54
    go_wp2_with fail
    go_ret
    exact ⟨ret_i (by rw [← HR.out, checkF_2 hF]), HB1.out⟩
  go_enter Try.func54, Try.ntmps54
  go_upto_region 4 with (go_at_call 85; refine (HNM.out _).mono ?_; rintro e w2 ⟨rfl, hb2⟩; have HB2 := Lib.hid hb2; clear hb2 p0 p1 p2 p3)
  have hs2 := HB2.out.size
  obtain ⟨w3, hw3⟩ : ∃ w3, w2.alloc (.cells (numC g) 109) = w3 := ⟨_, rfl⟩
  have hb3 : Below w2.heap.size w2 w3 := by rw [← hw3]; exact (Below.refl _ _).alloc (Nat.le_refl _) _
  have hs3 : w3.heap.size = w2.heap.size + 1 := by rw [← hw3]; simp
  have hx3 : w3.heap[w2.heap.size]? = some (.cells (numC g) 109 (0, 0)) := by rw [← hw3]; exact heap_alloc_new w2 _
  have HX3 := Lib.hid hx3
  have HB3 : Hid (Below w.heap.size w w3) := (HB1.out.trans (HB2.out.mono HB1.out.size)).trans (hb3.mono (by omega))
  unfold numC at hw3
  rw [hw3]
  clear hw3 hb3 hx3
  go_wp2_with fail
  go_loopw [15] (fun vi wr => ∃ k : Nat, k ≤ F.length ∧ vi = .int .i64 k ∧ Hid (Below w3.heap.size w3 wr) ∧ Hid (∀ j, j < k → faultOk g F j = true)) (fun vi _ => F.length - (intOf vi).toNat)
  case atStart => exact ⟨0, Nat.zero_le _, rfl, Below.refl _ _, fun j hj => absurd hj (Nat.not_lt_zero _)⟩
  case round =>
    obtain ⟨k, hk, rfl, HB, HN⟩ := hrel
    rename World => wr
    have hws := HB.out.size
    have HBW : Hid (Below w.heap.size w wr) := HB3.out.trans (HB.out.mono (by omega))
    by_cases hlt : k < F.length
    · obtain ⟨f, lb, lo, hfe, hA, hlb, f0, f1⟩ := (HFA.out wr HBW.out).at_ hlt
      subst hA
      obtain ⟨kind, number⟩ := f
      dsimp only at f0 f1
      have HLT := Lib.hid hlt
      have hal : Below wr.heap.size wr (wr.alloc (.cells #[.int .i64 kind, .int .i64 number] 41)) := (Below.refl _ _).alloc (Nat.le_refl _) _
      have HBA : Hid (Below w3.heap.size w3 (wr.alloc (.cells #[.int .i64 kind, .int .i64 number] 41))) := HB.out.trans (hal.mono hws)
      have HBX : Hid (Below w.heap.size w (wr.alloc (.cells #[.int .i64 kind, .int .i64 number] 41))) := HBW.out.trans (hal.mono HBW.out.size)
      have hlB : faultOk g F k = (inB kind 1 3 && (inB number 0 (numK g kind - 1) && !lostB (F.take k) kind number)) := by unfold faultOk; rw [hfe]
      have hz := heap_alloc_new wr (.cells #[.int .i64 kind, .int .i64 number] 41)
      have d0 := cell_of_row (wr.alloc (.cells #[.int .i64 kind, .int .i64 number] 41)) _ 0 _ _ _ hz
      have d1 := cell_of_row (wr.alloc (.cells #[.int .i64 kind, .int .i64 number] 41)) _ 1 _ _ _ hz
      simp only [List.getElem?_toArray, List.getElem?_cons_succ, List.getElem?_cons_zero] at d0 d1
      have hwa : wr.heap.size < (wr.alloc (.cells #[.int .i64 kind, .int .i64 number] 41)).heap.size := by simp
      have hwb : w2.heap.size < (wr.alloc (.cells #[.int .i64 kind, .int .i64 number] 41)).heap.size := by simp; omega
      have t0 := BW.cell (B := (wr.alloc (.cells #[.int .i64 kind, .int .i64 number] 41)).heap.size) hwa d0
      have t1 := BW.cell (B := (wr.alloc (.cells #[.int .i64 kind, .int .i64 number] 41)).heap.size) hwa d1
      have hcn : ∀ κ v, (numC g)[κ]? = some v → (wr.alloc (.cells #[.int .i64 kind, .int .i64 number] 41)).cell? ⟨w2.heap.size, κ, none⟩ = some v := fun κ v hv => by
        have := (HBA.out.block w2.heap.size (by omega)).trans HX3.out
        rw [cell_of_row _ _ κ _ _ _ this, hv]
      have hle9 : k ≤ F.length := hk
      have htk : (F.take k).length = k := by rw [List.length_take]; omega
      have HCT : Hid (∀ W, Below (wr.alloc (.cells #[.int .i64 kind, .int .i64 number] 41)).heap.size (wr.alloc (.cells #[.int .i64 kind, .int .i64 number] 41)) W → ∀ q, lostB (F.take k) kind number = q → Calls Try.prog 86 #[.slice (some ⟨lb, lo, none⟩) k cap, .agg #[.int .i64 kind, .int .i64 number]] W fun e w' => e = .returned (.bool q) ∧ Below W.heap.size W w') := fun W hW q hq => by
        have h1 := contains_any (some ⟨lb, lo, none⟩) cap (F.take k) kind number W ((HFA.out W (HBX.out.trans (hW.mono HBX.out.size))).take hle9) hq
        rw [htk] at h1
        exact h1
      have hkc : k ≤ cap := by omega
      clear hfe hz htk hal
      rcases q1 : inB kind 1 3
      · have HLB : Hid (faultOk g F k = false) := by show _ = _; rw [hlB, q1]; rfl
        have Q1 := Lib.hid q1
        clear hlB q1 hcn
        go_wp2_with fail
        refine wp_region_below (wr.alloc (.cells #[.int .i64 kind, .int .i64 number] 41)).heap.size _ (Below.refl _ _) (by kernel_rfl) (by kernel_rfl) ?_
        repeat (go_big_quiet_step ((go_at_call 69; exact quiet_below (Nat.le_refl _) ((within_any _ _ _ _ Q1.out).mono fun _ _ hq => ⟨hq.1, hq.2 ▸ Below.refl _ _⟩))))
        refine wpQuiet_nil ?_
        intro s'
        have HBS : Hid (Below w.heap.size w s'.1) := HBX.out.trans (s'.2.mono HBX.out.size)
        generalize s'.1 = w5 at *
        clear t0 t1
        go_wp2_with fail
        go_ret
        exact ⟨ret_i (by rw [← HR.out, checkF_82 hF HLT.out HLB.out]), HBS.out⟩
      · obtain ⟨κ, rfl, hκ4, hnc⟩ := num_at g q1
        have t2 := BW.cell (B := (wr.alloc (.cells #[.int .i64 κ, .int .i64 number] 41)).heap.size) hwb (hcn κ _ hnc)
        have hnk : numK g κ - 1 ≤ 9223372036854775806 ∧ 0 ≤ numK g κ := by
          unfold numK
          split
          · omega
          · split <;> omega
        obtain ⟨nk, hnke⟩ : ∃ nk, numK g κ = nk := ⟨_, rfl⟩
        rw [hnke] at t2 hlB hnk
        have Q1 := Lib.hid q1
        clear hcn hnc hnke
        rcases q2 : inB number 0 (nk - 1)
        · have HLB : Hid (faultOk g F k = false) := by show _ = _; rw [hlB, q1, q2]; rfl
          have Q2 := Lib.hid q2
          clear hlB q2
          go_wp2_with fail
          refine wp_region_below (wr.alloc (.cells #[.int .i64 κ, .int .i64 number] 41)).heap.size _ (Below.refl _ _) (by kernel_rfl) (by kernel_rfl) ?_
          repeat (go_big_quiet_step (first | (go_at_call 69; (with_reducible exact quiet_below (Nat.le_refl _) ((within_any κ 1 3 _ Q1.out).mono fun _ _ hq => ⟨hq.1, hq.2 ▸ Below.refl _ _⟩))) | (go_at_call 69; (with_reducible exact quiet_below (Nat.le_refl _) ((within_any number 0 (nk - 1) _ Q2.out).mono fun _ _ hq => ⟨hq.1, hq.2 ▸ Below.refl _ _⟩)))))
          refine wpQuiet_nil ?_
          intro s'
          have HBS : Hid (Below w.heap.size w s'.1) := HBX.out.trans (s'.2.mono HBX.out.size)
          have HBT : Hid (Below w3.heap.size w3 s'.1) := HBA.out.trans (s'.2.mono HBA.out.size)
          generalize s'.1 = w5 at *
          clear t0 t1 t2
          go_wp2_with fail
          go_ret
          exact ⟨ret_i (by rw [← HR.out, checkF_82 hF HLT.out HLB.out]), HBS.out⟩
        · rcases q3 : lostB (F.take k) κ number
          · have HLB : Hid (faultOk g F k = true) := by show _ = _; rw [hlB, q1, q2, q3]; rfl
            have Q2 := Lib.hid q2
            have Q3 := Lib.hid q3
            clear hlB q2 q3
            go_wp2_with fail
            refine wp_region_below (wr.alloc (.cells #[.int .i64 κ, .int .i64 number] 41)).heap.size _ (Below.refl _ _) (by kernel_rfl) (by kernel_rfl) ?_
            repeat (go_big_quiet_step (first | (go_at_call 69; (with_reducible exact quiet_below (Nat.le_refl _) ((within_any κ 1 3 _ Q1.out).mono fun _ _ hq => ⟨hq.1, hq.2 ▸ Below.refl _ _⟩))) | (go_at_call 69; (with_reducible exact quiet_below (Nat.le_refl _) ((within_any number 0 (nk - 1) _ Q2.out).mono fun _ _ hq => ⟨hq.1, hq.2 ▸ Below.refl _ _⟩))) | (go_at_call 86; exact quiet_below (Nat.le_refl _) (HCT.out _ (by exact Subtype.property _) _ Q3.out))))
            refine wpQuiet_nil ?_
            intro s'
            have HBS : Hid (Below w.heap.size w s'.1) := HBX.out.trans (s'.2.mono HBX.out.size)
            have HBT : Hid (Below w3.heap.size w3 s'.1) := HBA.out.trans (s'.2.mono HBA.out.size)
            generalize s'.1 = w5 at *
            clear t0 t1 t2
            go_wp2_with fail
            go_roundw
            case rel => exact ⟨k + 1, HLT.out, by go_num, HBT, upto_next HN.out HLB.out⟩
            case measure => simp [intOf]; have := HLT.out; omega
          · have HLB : Hid (faultOk g F k = false) := by show _ = _; rw [hlB, q1, q2, q3]; rfl
            have Q2 := Lib.hid q2
            have Q3 := Lib.hid q3
            clear hlB q2 q3
            go_wp2_with fail
            refine wp_region_below (wr.alloc (.cells #[.int .i64 κ, .int .i64 number] 41)).heap.size _ (Below.refl _ _) (by kernel_rfl) (by kernel_rfl) ?_
            repeat (go_big_quiet_step (first | (go_at_call 69; (with_reducible exact quiet_below (Nat.le_refl _) ((within_any κ 1 3 _ Q1.out).mono fun _ _ hq => ⟨hq.1, hq.2 ▸ Below.refl _ _⟩))) | (go_at_call 69; (with_reducible exact quiet_below (Nat.le_refl _) ((within_any number 0 (nk - 1) _ Q2.out).mono fun _ _ hq => ⟨hq.1, hq.2 ▸ Below.refl _ _⟩))) | (go_at_call 86; exact quiet_below (Nat.le_refl _) (HCT.out _ (by exact Subtype.property _) _ Q3.out))))
            refine wpQuiet_nil ?_
            intro s'
            have HBS : Hid (Below w.heap.size w s'.1) := HBX.out.trans (s'.2.mono HBX.out.size)
            have HBT : Hid (Below w3.heap.size w3 s'.1) := HBA.out.trans (s'.2.mono HBA.out.size)
            generalize s'.1 = w5 at *
            clear t0 t1 t2
            go_wp2_with fail
            go_ret
            exact ⟨ret_i (by rw [← HR.out, checkF_82 hF HLT.out HLB.out]), HBS.out⟩
    · obtain rfl : F.length = k := by omega
      have hfin := checkF_0 hF HN.out
      go_wp2_with fail
      go_ret
      exact ⟨ret_i (by rw [← HR.out, hfin]), HBW.out⟩
end Go.Proofs.Ytegclodchhcbaaa
