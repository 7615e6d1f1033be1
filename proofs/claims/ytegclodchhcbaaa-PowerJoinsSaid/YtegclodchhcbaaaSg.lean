/- Walks: the example, the look at it. -/
import Derived.Test.YtegclodchhcbaaaSf
namespace Go.Proofs.Ytegclodchhcbaaa
open Go.RowKit

def exG : MGrid := ⟨3, [⟨0, 1, 10, false⟩, ⟨1, 2, 5, false⟩, ⟨0, 2, 4, true⟩], [⟨0, 20⟩], [⟨2, 8, 3⟩, ⟨1, 3, 1⟩, ⟨2, 2, 0⟩]⟩
theorem ex_check : checkA exG [] [0, 1, 2] = 0 ∧ checkGF exG [] = 0 := by decide +kernel
theorem ex_cut (S : Nat → Bool) : cutG exG [] [0, 1, 2] S = (ind (S 0 && !S 1) 10 + ind (S 1 && !S 0) 10 + (ind (S 1 && !S 2) 5 + ind (S 2 && !S 1) 5) + ind (S 0 && !S 2) 4) + ind (!S 0) 20 + (ind (S 2) 8 + ind (S 1) 3 + ind (S 2) 2) := by
  rcases h0 : S 0 <;> rcases h1 : S 1 <;> rcases h2 : S 2 <;> simp [cutG, exG, sumN, lineC, srcC, userC, lineOn, srcOn, lostB, ind, h0, h1, h2]
theorem ex_flow {n : Nat} {sum : Int} {R : Nat → Bool} (h : MostG exG [] [0, 1, 2] n sum R) : sum = 12 := by
  have h1 := h.le (fun x => decide (x < 2))
  have h2 := h.is
  rw [ex_cut] at h1 h2
  simp [ind] at h1
  rcases e0 : R 0 <;> rcases e1 : R 1 <;> rcases e2 : R 2 <;> simp [ind, e0, e1, e2] at h2 <;> omega
theorem ex_due (S : Nat → Bool) : dueU exG [] S 0 = 8 - ind (S 2) 8 ∧ dueU exG [] S 1 = 3 - ind (S 1) 3 ∧ dueU exG [] S 2 = 2 - ind (S 2) 2 := by
  refine ⟨?_, ?_, ?_⟩ <;> simp [dueU, userAt, exG, userC, lostB]
theorem ex_base (S : Nat → Bool) : baseC exG [] S = (ind (S 0 && !S 1) 10 + ind (S 1 && !S 0) 10 + (ind (S 1 && !S 2) 5 + ind (S 2 && !S 1) 5) + ind (S 0 && !S 2) 4) + ind (!S 0) 20 := by
  rcases h0 : S 0 <;> rcases h1 : S 1 <;> rcases h2 : S 2 <;> simp [baseC, exG, sumN, lineC, srcC, lineOn, srcOn, lostB, ind, h0, h1, h2]
theorem ex_rank : rankO exG = [0, 1, 2] := by decide +kernel
theorem ex_c0 : carB exG [] [0] = true := carB_iff.2 fun S => by
  have h := ex_due S
  rw [ex_base]
  simp only [List.map_cons, List.map_nil, List.sum_cons, List.sum_nil, h.1]
  rcases h0 : S 0 <;> rcases h1 : S 1 <;> rcases h2 : S 2 <;> simp [ind]
theorem ex_c1 : carB exG [] [0, 1] = true := carB_iff.2 fun S => by
  have h := ex_due S
  rw [ex_base]
  simp only [List.map_cons, List.map_nil, List.sum_cons, List.sum_nil, h.1, h.2.1]
  rcases h0 : S 0 <;> rcases h1 : S 1 <;> rcases h2 : S 2 <;> simp [ind]
theorem ex_c2 : carB exG [] [0, 1, 2] = false := by
  rw [Bool.eq_false_iff]
  intro hc
  have h := ex_due (fun x => decide (x < 2))
  have h1 := carB_iff.1 hc (fun x => decide (x < 2))
  rw [ex_base] at h1
  simp only [List.map_cons, List.map_nil, List.sum_cons, List.sum_nil, h.1, h.2.1, h.2.2] at h1
  simp [ind] at h1
theorem ex_served : servedG exG [] = [0, 1] := by
  unfold servedG
  rw [ex_rank]
  have e1 : haveG exG [] [0, 1, 2] 1 = [0] := by
    rw [haveG, haveG]
    exact if_pos ex_c0
  have e2 : haveG exG [] [0, 1, 2] 2 = [0, 1] := by
    rw [haveG, e1]
    exact if_pos ex_c1
  show haveG exG [] [0, 1, 2] 3 = [0, 1]
  rw [haveG, e2]
  exact if_neg (by rw [show ([0, 1] : List Int) ++ [[0, 1, 2].getD 2 0] = [0, 1, 2] from rfl, ex_c2]; decide)
theorem ex_bools : servedB exG [] 0 = true ∧ servedB exG [] 1 = true ∧ servedB exG [] 2 = false := by
  unfold servedB
  rw [ex_served]
  decide
theorem sl_of_row {w : World} {B size b n : Nat} {cs : Array Value} {t : TypeId} (hh : w.heap[b]? = some (.cells cs t (0, 0))) (hlt : b < B) {f : Nat → Nat → Value} (hc : ∀ i j, i < n → j < size → cs[i * size + j]? = some (f i j)) : SlA w B size (some ⟨b, 0, none⟩) n f := fun _ => ⟨b, 0, rfl, hlt, fun i j hi hj => by
  rw [Nat.zero_add, cell_of_row w b _ cs t _ hh]
  exact hc i j hi hj⟩
theorem info_grid : (Try.prog.info? 26).map (·.size) = some 4 := by kernel_rfl
theorem results_grid {fn : Func} {p : Tmp} (h : fn.results = #[.cell p 26]) (tmps : Array Value) (w : World) (g : Nat) (cs : Array Value) (hs : cs.size = 4) (hp : tmps.getD p undef = .pointer (some ⟨g, 0, none⟩)) (hg : w.heap[g]? = some (.cells cs 26 (0, 0))) : (results fn tmps).run Try.prog w = .ok (.agg cs) w := by
  obtain ⟨d, hd⟩ : ∃ d, Try.prog.underlying 26 = some (.struct d) := ⟨_, Try.underlying26⟩
  exact results_cell_row h tmps w g 26 cs (0, 0) (.struct d) hp hg hd rfl (by rw [info_grid, hs])
theorem four_made (w : World) (a b c d : Obj) : ∀ W, W = (((w.alloc a).alloc b).alloc c).alloc d → W.heap[w.heap.size]? = some a ∧ W.heap[w.heap.size + 1]? = some b ∧ W.heap[w.heap.size + 1 + 1]? = some c ∧ W.heap[w.heap.size + 1 + 1 + 1]? = some d ∧ W.heap.size = w.heap.size + 4 ∧ Below w.heap.size w W := by
  rintro W rfl
  have s1 : (w.alloc a).heap.size = w.heap.size + 1 := by simp
  have s2 : ((w.alloc a).alloc b).heap.size = w.heap.size + 1 + 1 := by simp
  have s3 : (((w.alloc a).alloc b).alloc c).heap.size = w.heap.size + 1 + 1 + 1 := by simp
  refine ⟨?_, ?_, ?_, ?_, by simp, ?_⟩
  · rw [Below.heap_alloc _ _ _ (by omega), Below.heap_alloc _ _ _ (by omega), Below.heap_alloc _ _ _ (by omega), heap_alloc_new]
  · rw [Below.heap_alloc _ _ _ (by omega), Below.heap_alloc _ _ _ (by omega), ← s1, heap_alloc_new]
  · rw [Below.heap_alloc _ _ _ (by omega), ← s2, heap_alloc_new]
  · rw [← s3, heap_alloc_new]
  · exact ((((Below.refl _ _).alloc (Nat.le_refl _) _).alloc (by omega) _).alloc (by omega) _).alloc (by omega) _
set_option maxRecDepth 100000 in
theorem example_any (w : World) : Calls Try.prog 53 #[] w fun e w' => ∃ A1 A2 A3, e = .returned (.agg (gridC exG A1 A2 A3 3 1 3)) ∧ GridA w' w'.heap.size exG A1 A2 A3 ∧ Below w.heap.size w w' := by
  go_enter Try.func53, Try.ntmps53
  go_wp2_with fail
  obtain ⟨h1, h2, h3, h4, h5, h6⟩ := four_made w _ _ _ _ _ rfl
  refine bodyPost_ret (results_grid rfl _ _ w.heap.size _ rfl rfl h1) rfl ⟨_, _, _, rfl, ⟨⟨by decide, ?_⟩, ⟨by decide, ?_⟩, ⟨by decide, ?_⟩⟩, h6⟩
  · refine sl_of_row h2 (by omega) fun i j hi hj => ?_
    have hi : i < 3 := hi
    rcases (show i = 0 ∨ i = 1 ∨ i = 2 by omega) with rfl | rfl | rfl <;> rcases (show j = 0 ∨ j = 1 ∨ j = 2 ∨ j = 3 by omega) with rfl | rfl | rfl | rfl <;> rfl
  · refine sl_of_row h3 (by omega) fun i j hi hj => ?_
    have hi : i < 1 := hi
    rcases (show i = 0 by omega) with rfl
    rcases (show j = 0 ∨ j = 1 by omega) with rfl | rfl <;> rfl
  · refine sl_of_row h4 (by omega) fun i j hi hj => ?_
    have hi : i < 3 := hi
    rcases (show i = 0 ∨ i = 1 ∨ i = 2 by omega) with rfl | rfl | rfl <;> rcases (show j = 0 ∨ j = 1 ∨ j = 2 by omega) with rfl | rfl | rfl <;> rfl
set_option maxRecDepth 100000 in
set_option maxHeartbeats 4000000 in
theorem works_any (w : World) : Calls Try.prog 16 #[] w fun e w' => e = .returned (.bool true) ∧ Below w.heap.size w w' := by
  have HEX := Lib.hid example_any
  have HFA : Hid (∀ W : World, FaultsA W W.heap.size none []) := fun W => ⟨by decide, fun h => by simp at h⟩
  have HI : Hid (∀ W : World, ∀ b, W.heap[b]? = some (.cells #[.int .i64 0, .int .i64 1, .int .i64 2] 3 (0, 0)) → b < W.heap.size → IntsA W W.heap.size (some ⟨b, 0, none⟩) [0, 1, 2]) := fun W b hh hb => ⟨by decide, fun _ => ⟨b, 0, rfl, hb, fun i hi => by
    rw [Nat.zero_add, cell_of_row W b i _ 3 _ hh]
    have hi : i < 3 := hi
    rcases (show i = 0 ∨ i = 1 ∨ i = 2 by omega) with rfl | rfl | rfl <;> rfl⟩⟩
  have HFL : Hid (∀ W A1 A2 A3 b, GridA W W.heap.size exG A1 A2 A3 → W.heap[b]? = some (.cells #[.int .i64 0, .int .i64 1, .int .i64 2] 3 (0, 0)) → Calls Try.prog 22 #[.agg (gridC exG A1 A2 A3 3 1 3), .slice none 0 0, .slice (some ⟨b, 0, none⟩) 3 3] W fun e w' => e = .returned (.tuple #[.int .i64 12, .int .i64 0]) ∧ Below W.heap.size W w') := fun W A1 A2 A3 b hg hh => (Flow_any exG A1 A2 A3 3 1 3 none 0 [] (some ⟨b, 0, none⟩) 3 [0, 1, 2] W hg (HFA.out W) (Nat.le_refl _) (HI.out W b hh (lt_of_cells hh))).mono fun e w' h => by
    obtain ⟨hb, sum, he, _, hok⟩ := h
    obtain ⟨n, R, _, hm⟩ := hok ex_check.1
    rw [ex_check.1, ex_flow hm] at he
    exact ⟨he, hb⟩
  have HSV : Hid (∀ W A1 A2 A3, GridA W W.heap.size exG A1 A2 A3 → Calls Try.prog 17 #[.agg (gridC exG A1 A2 A3 3 1 3), .slice none 0 0] W fun e w' => ∃ ob, e = .returned (.tuple #[.slice (some ⟨ob, 0, none⟩) 3 3, .int .i64 0]) ∧ (w'.cell? ⟨ob, 0, none⟩ = some (.bool true) ∧ w'.cell? ⟨ob, 1, none⟩ = some (.bool true) ∧ w'.cell? ⟨ob, 2, none⟩ = some (.bool false)) ∧ Below W.heap.size W w') := fun W A1 A2 A3 hg => (Served_any exG A1 A2 A3 3 1 3 none 0 [] W hg (HFA.out W) (Nat.le_refl _)).mono fun e w' h => by
    obtain ⟨hb, h⟩ := h
    rcases h with ⟨h, _⟩ | ⟨_, v, he, ob, rfl, _, ho⟩
    · exact absurd ex_check.2 h
    · have h0 := ho.cell (show 0 < 3 by decide)
      have h1 := ho.cell (show 1 < 3 by decide)
      have h2 := ho.cell (show 2 < 3 by decide)
      rw [ex_bools.1] at h0
      rw [ex_bools.2.1] at h1
      rw [ex_bools.2.2] at h2
      exact ⟨ob, he, ⟨h0, h1, h2⟩, hb⟩
  have HB : Hid (Below w.heap.size w w) := Below.refl _ _
  unfold gridC at HEX HFL HSV
  go_enter Try.func16, Try.ntmps16
  go_wp2_with (first
    | (go_at_call 53; refine (HEX.out _).mono ?_; rintro e w2 ⟨A1, A2, A3, rfl, hg2, hb2⟩; have HG2 := Lib.hid hg2; have HB := Lib.hid (HB.out.trans (hb2.mono HB.out.size)); clear hg2 hb2)
    | (go_at_call 22; refine (HFL.out _ A1 A2 A3 w2.heap.size ((HG2.out.keep ((Below.refl _ _).alloc (Nat.le_refl _) _)).more (by simp)) (heap_alloc_new w2 _)).mono ?_; rintro e w3 ⟨rfl, hb3⟩; have HB := Lib.hid ((HB.out.alloc HB.out.size _).trans (hb3.mono (HB.out.alloc HB.out.size _).size)); clear hb3)
    | (go_at_call 17; refine (HSV.out _ A1 A2 A3 HG2.out).mono ?_; rintro e w5 ⟨ob, rfl, ⟨k0, k1, k2⟩, hb5⟩; have HB := Lib.hid (HB.out.trans (hb5.mono HB.out.size)); clear hb5)
    | fail)
  go_ret
  exact ⟨rfl, HB.out⟩
end Go.Proofs.Ytegclodchhcbaaa
