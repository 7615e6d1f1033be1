/- Law: two grids in one. Printed by gen_ls12.py. -/
import Derived.Test.YtegclodchhcbaaaJe
import Derived.Test.YtegclodchhcbaaaJf
import Derived.Test.YtegclodchhcbaaaSm
import Derived.Test.YtegclodchhcbaaaLa
namespace Go.Proofs.Ytegclodchhcbaaa
open Go.RowKit

theorem few_far' {g : MGrid} (h : farB g = false) : FewG g := by
  unfold farB at h
  simp only [Bool.or_eq_false_iff, decide_eq_false_iff_not] at h
  exact ⟨by omega, by omega, by omega⟩
theorem checkA_all {g : MGrid} (h : checkG g = 0) : checkA g [] (allL g.users.length) = 0 := by
  have h1 : checkGF g [] = 0 := by unfold checkGF checkF; rw [if_pos h]; rfl
  unfold checkA
  rw [if_pos h1]
  unfold checkW
  rw [if_pos]
  refine rng_yes fun k hk => ?_
  rw [allL_len] at hk
  unfold wantB prevW
  rw [allL_at hk]
  simp only [Bool.and_eq_true, decide_eq_true_eq]
  refine ⟨?_, by omega⟩
  split
  · omega
  · rw [allL_at (by omega)]; omega
theorem flow_det {g : MGrid} (hz : checkG g = 0) : ∃ sum, ∀ w e w', FlowP g [] (allL g.users.length) w e w' → e = .returned (.tuple #[.int .i64 sum, .int .i64 0]) ∧ (∃ n R, GridOk g n ∧ MostG g [] (allL g.users.length) n sum R) ∧ Below w.heap.size w w' := by
  by_cases hx : ∃ n sum R, GridOk g n ∧ MostG g [] (allL g.users.length) n sum R
  · obtain ⟨n, sum, R, hg, hm⟩ := hx
    refine ⟨sum, fun w e w' h => ?_⟩
    obtain ⟨hb, s', he, _, hok⟩ := h
    obtain ⟨n', R', hg', hm'⟩ := hok (checkA_all hz)
    obtain rfl : n = n' := by have h1 := hg.nodes; have h2 := hg'.nodes; omega
    exact ⟨by rw [he, (hm.same hm').1, checkA_all hz], ⟨n, R, hg, hm⟩, hb⟩
  · refine ⟨0, fun w e w' h => ?_⟩
    obtain ⟨_, s', he, _, hok⟩ := h
    obtain ⟨n', R', hg', hm'⟩ := hok (checkA_all hz)
    exact absurd ⟨n', s', R', hg', hm'⟩ hx
theorem sumL_bd {α : Type} {f : α → Int} {c : Int} : ∀ {l : List α}, (∀ x ∈ l, 0 ≤ f x ∧ f x ≤ c) → 0 ≤ sumL f l ∧ sumL f l ≤ c * l.length
  | [], _ => by rw [sumL_nil]; simp
  | x :: l, h => by
    have h1 := h x (by simp)
    have h2 := sumL_bd (l := l) fun y hy => h y (by simp [hy])
    rw [sumL_cons, List.length_cons]
    push_cast
    rw [Int.mul_add, Int.mul_one]
    omega
theorem most_bd {g : MGrid} {n : Nat} {sum : Int} {R : Nat → Bool} (hg : GridOk g n) (hm : MostG g [] (allL g.users.length) n sum R) : 0 ≤ sum ∧ sum ≤ 600000 := by
  have h1 := hm.is
  have h2 := hm.le (fun _ => false)
  rw [cutAll_is] at h1 h2
  have hl : ∀ S : Nat → Bool, 0 ≤ sumL (lineC [] S 0) g.lines := fun S => (sumL_bd (c := 300000) fun x hx => by
    have := hg.line x hx
    refine ⟨line_nn (by omega), ?_⟩
    unfold lineC ind
    split <;> split <;> omega).1
  have hs : ∀ S : Nat → Bool, 0 ≤ sumL (srcC [] S 0) g.srcs ∧ sumL (srcC [] S 0) g.srcs ≤ 100000 * g.srcs.length := fun S => sumL_bd fun x hx => by
    have := (hg.src x hx).2
    unfold srcC ind
    split <;> omega
  have hu : ∀ S : Nat → Bool, 0 ≤ sumL (userC [] S) g.users := fun S => (sumL_bd (c := 1000000) fun x hx => by
    have := (hg.user x hx).2.1
    unfold userC ind
    split <;> omega).1
  have e1 : sumL (lineC [] (fun _ => false) 0) g.lines = 0 := by
    rw [sumL_congr (g := fun _ => 0) fun x _ => by unfold lineC ind; simp]
    have := sumL_bd (f := fun (_ : MLine) => 0) (c := 0) (l := g.lines) fun _ _ => by simp
    omega
  have e3 : sumL (userC [] (fun _ => false)) g.users = 0 := by
    rw [sumL_congr (g := fun _ => 0) fun x _ => by unfold userC ind; simp]
    have := sumL_bd (f := fun (_ : MUser) => 0) (c := 0) (l := g.users) fun _ _ => by simp
    omega
  unfold cutAll at h1 h2
  have h3 := hl R
  have h4 := hs R
  have h5 := hu R
  have h6 := hs (fun _ => false)
  have h7 := hg.ns
  rw [e1, e3] at h2
  omega
def zeroG : MGrid := ⟨0, [], [], []⟩
theorem join_det (a b : MGrid) (ff tt lim : Int) (one : Bool) : ∃ G : MGrid, (joinE a b ff tt lim one = 0 → G = joinG a b ff tt lim one) ∧ (G.lines.length ≤ maxLen ∧ G.srcs.length ≤ maxLen ∧ G.users.length ≤ maxLen) ∧ ∀ w e w', JoinP a b ff tt lim one w e w' → (∃ A1 A2 A3 c1 c2 c3, e = .returned (.tuple #[.agg (gridC G A1 A2 A3 c1 c2 c3), .int .i64 (joinE a b ff tt lim one)]) ∧ OwnG w' w.heap.size G A1 A2 A3) ∧ Below w.heap.size w w' := by
  by_cases h : joinE a b ff tt lim one = 0
  · obtain ⟨n, hg⟩ := checkG_ok (joinE_ok h).2.2.2
    have := hg.nl; have := hg.ns; have := hg.nu
    refine ⟨_, fun _ => rfl, ⟨by unfold maxLen; omega, by unfold maxLen; omega, by unfold maxLen; omega⟩, fun w e w' ⟨hb, hp⟩ => ⟨?_, hb⟩⟩
    rcases hp with ⟨k, _⟩ | ⟨_, A1, A2, A3, c1, c2, c3, he, ho⟩
    · exact absurd h k
    · exact ⟨A1, A2, A3, c1, c2, c3, by rw [he, h], ho⟩
  · refine ⟨zeroG, fun k => absurd k h, ⟨by decide, by decide, by decide⟩, fun w e w' ⟨hb, hp⟩ => ⟨?_, hb⟩⟩
    rcases hp with ⟨_, he⟩ | ⟨k, _⟩
    · exact ⟨none, none, none, 0, 0, 0, he, fun h => absurd h (by decide), fun h => absurd h (by decide), fun h => absurd h (by decide)⟩
    · exact absurd k h
theorem three_made (w : World) (a b c : Obj) : ∀ W, W = ((w.alloc a).alloc b).alloc c → W.heap[w.heap.size]? = some a ∧ W.heap[w.heap.size + 1]? = some b ∧ W.heap[w.heap.size + 1 + 1]? = some c ∧ W.heap.size = w.heap.size + 3 ∧ Below w.heap.size w W := by
  rintro W rfl
  have s1 : (w.alloc a).heap.size = w.heap.size + 1 := by simp
  have s2 : ((w.alloc a).alloc b).heap.size = w.heap.size + 1 + 1 := by simp
  refine ⟨?_, ?_, ?_, by simp, ?_⟩
  · rw [Below.heap_alloc _ _ _ (by omega), Below.heap_alloc _ _ _ (by omega), heap_alloc_new]
  · rw [Below.heap_alloc _ _ _ (by omega), ← s1, heap_alloc_new]
  · rw [← s2, heap_alloc_new]
  · exact (((Below.refl _ _).alloc (Nat.le_refl _) _).alloc (by omega) _).alloc (by omega) _
theorem bel_set' {a W : World} (h : Below a.heap.size a W) {g o : Nat} (hg : a.heap.size ≤ g) (u : Value) : Below a.heap.size a (W.setCell ⟨g, o, none⟩ u) := h.setCell (p := ⟨g, o, none⟩) hg _
set_option maxRecDepth 100000 in
set_option maxHeartbeats 8000000 in
theorem joins_any (a : MGrid) (A1 A2 A3 : Option Addr) (c1 c2 c3 : Nat) (b : MGrid) (B1 B2 B3 : Option Addr) (d1 d2 d3 : Nat) (ff tt la lb lim : Int) (one : Bool) (w : World) (h : GridA w w.heap.size a A1 A2 A3) (h' : GridA w w.heap.size b B1 B2 B3) :
    Calls Try.prog 12 #[.agg (gridC a A1 A2 A3 c1 c2 c3), .agg (gridC b B1 B2 B3 d1 d2 d3), .agg #[.int .i64 ff, .int .i64 tt, .int .i64 la, .int .i64 lb, .int .i64 lim, .bool one]] w fun e w' => e = .returned (.bool true) ∧ Below w.heap.size w w' := by
  obtain ⟨w1, hw1⟩ : ∃ w1, ((w.alloc (.cells #[.int .i64 a.nodes, .slice A1 a.lines.length c1, .slice A2 a.srcs.length c2, .slice A3 a.users.length c3] 26)).alloc (.cells #[.int .i64 b.nodes, .slice B1 b.lines.length d1, .slice B2 b.srcs.length d2, .slice B3 b.users.length d3] 26)).alloc (.cells #[.int .i64 ff, .int .i64 tt, .int .i64 la, .int .i64 lb, .int .i64 lim, .bool one] 69) = w1 := ⟨_, rfl⟩
  obtain ⟨k1, k2, k3, hs1, hb1⟩ := three_made w _ _ _ w1 hw1.symm
  have HX : Hid (∀ W, Below w1.heap.size w1 W → Below w.heap.size w W ∧ (W.cell? ⟨w.heap.size, 0, none⟩ = some (.int .i64 a.nodes) ∧ W.cell? ⟨w.heap.size, 1, none⟩ = some (.slice A1 a.lines.length c1) ∧ W.cell? ⟨w.heap.size, 2, none⟩ = some (.slice A2 a.srcs.length c2) ∧ W.cell? ⟨w.heap.size, 3, none⟩ = some (.slice A3 a.users.length c3)) ∧ (W.cell? ⟨w.heap.size + 1, 0, none⟩ = some (.int .i64 b.nodes) ∧ W.cell? ⟨w.heap.size + 1, 1, none⟩ = some (.slice B1 b.lines.length d1) ∧ W.cell? ⟨w.heap.size + 1, 2, none⟩ = some (.slice B2 b.srcs.length d2) ∧ W.cell? ⟨w.heap.size + 1, 3, none⟩ = some (.slice B3 b.users.length d3)) ∧ W.cell? ⟨w.heap.size + 1 + 1, 0, none⟩ = some (.int .i64 ff) ∧ W.cell? ⟨w.heap.size + 1 + 1, 1, none⟩ = some (.int .i64 tt) ∧ W.cell? ⟨w.heap.size + 1 + 1, 2, none⟩ = some (.int .i64 la) ∧ W.cell? ⟨w.heap.size + 1 + 1, 3, none⟩ = some (.int .i64 lb) ∧ W.cell? ⟨w.heap.size + 1 + 1, 4, none⟩ = some (.int .i64 lim) ∧ W.cell? ⟨w.heap.size + 1 + 1, 5, none⟩ = some (.bool one)) := fun W hW => by
    have h1 := (hW.block w.heap.size (by omega)).trans k1
    have h2 := (hW.block (w.heap.size + 1) (by omega)).trans k2
    have h3 := (hW.block (w.heap.size + 1 + 1) (by omega)).trans k3
    exact ⟨hb1.trans (hW.mono (by omega)), ⟨cell_of_row W _ 0 _ _ _ h1, cell_of_row W _ 1 _ _ _ h1, cell_of_row W _ 2 _ _ _ h1, cell_of_row W _ 3 _ _ _ h1⟩, ⟨cell_of_row W _ 0 _ _ _ h2, cell_of_row W _ 1 _ _ _ h2, cell_of_row W _ 2 _ _ _ h2, cell_of_row W _ 3 _ _ _ h2⟩, cell_of_row W _ 0 _ _ _ h3, cell_of_row W _ 1 _ _ _ h3, cell_of_row W _ 2 _ _ _ h3, cell_of_row W _ 3 _ _ _ h3, cell_of_row W _ 4 _ _ _ h3, cell_of_row W _ 5 _ _ _ h3⟩
  have HG : Hid (∀ W, Below w1.heap.size w1 W → GridA W W.heap.size a A1 A2 A3 ∧ GridA W W.heap.size b B1 B2 B3) := fun W hW => ⟨(h.keep (HX.out W hW).1).more (HX.out W hW).1.size, (h'.keep (HX.out W hW).1).more (HX.out W hW).1.size⟩
  obtain ⟨_, ⟨p0, p1, p2, p3⟩, ⟨q0, q1, q2, q3⟩, s0, s1, s2, s3, s4, s5⟩ := HX.out w1 (Below.refl _ _)
  obtain ⟨fa, hfa⟩ : ∃ fa, farB a = fa := ⟨_, rfl⟩
  obtain ⟨fb, hfb⟩ : ∃ fb, farB b = fb := ⟨_, rfl⟩
  have HFA : Hid (∀ W, Below w1.heap.size w1 W → Calls Try.prog 38 #[.agg (gridC a A1 A2 A3 c1 c2 c3)] W fun e w' => e = .returned (.bool fa) ∧ Below W.heap.size W w') := fun W hW => far_any a A1 A2 A3 c1 c2 c3 W (HG.out W hW).1 hfa
  have HFB : Hid (∀ W, Below w1.heap.size w1 W → Calls Try.prog 38 #[.agg (gridC b B1 B2 B3 d1 d2 d3)] W fun e w' => e = .returned (.bool fb) ∧ Below W.heap.size W w') := fun W hW => far_any b B1 B2 B3 d1 d2 d3 W (HG.out W hW).2 hfb
  have HWK := Lib.hid works_any
  have HB0 : Hid (Below w1.heap.size w1 w1) := Below.refl _ _
  unfold gridC at HFA HFB ⊢
  by_cases hfar : (fa || fb) = true
  · clear h h' hb1 k1 k2 k3 hs1 hfa hfb
    cases fa
    · cases fb
      · exact absurd hfar (by decide)
      · go_enter Try.func12, Try.ntmps12
        go_wp2_with (first
          | (go_at_call 38; with_reducible refine (HFA.out _ HB0.out).mono ?_; rintro e' w2 ⟨rfl, hb2⟩; have HB2 : Below w1.heap.size w1 w2 := hb2; clear hb2 p0 p1 p2 p3 q0 q1 q2 q3 s0 s1 s2 s3 s4 s5; obtain ⟨_, ⟨p0, p1, p2, p3⟩, ⟨q0, q1, q2, q3⟩, s0, s1, s2, s3, s4, s5⟩ := HX.out w2 HB2)
          | (go_at_call 38; with_reducible refine (HFB.out _ HB2).mono ?_; rintro e' w3 ⟨rfl, hb3⟩; have HB3 : Below w1.heap.size w1 w3 := bel_next HB2 hb3; clear hb3 p0 p1 p2 p3 q0 q1 q2 q3 s0 s1 s2 s3 s4 s5)
          | (go_at_call 16; refine (HWK.out _).mono ?_; rintro e' w7 ⟨rfl, hb7⟩; have HB7 : Below w1.heap.size w1 w7 := bel_next HB3 hb7; clear hb7)
          | fail)
        go_ret
        exact ⟨rfl, (HX.out _ HB7).1⟩
    · go_enter Try.func12, Try.ntmps12
      go_wp2_with (first
        | (go_at_call 38; with_reducible refine (HFA.out _ HB0.out).mono ?_; rintro e' w2 ⟨rfl, hb2⟩; have HB2 : Below w1.heap.size w1 w2 := hb2; clear hb2 p0 p1 p2 p3 q0 q1 q2 q3 s0 s1 s2 s3 s4 s5)
        | (go_at_call 16; refine (HWK.out _).mono ?_; rintro e' w7 ⟨rfl, hb7⟩; have HB7 : Below w1.heap.size w1 w7 := bel_next HB2 hb7; clear hb7)
        | fail)
      go_ret
      exact ⟨rfl, (HX.out _ HB7).1⟩
  · obtain ⟨rfl, rfl⟩ : fa = false ∧ fb = false := by simpa using hfar
    obtain ⟨E, hE⟩ : ∃ E, joinE a b ff tt lim one = E := ⟨_, rfl⟩
    have HE := Lib.hid hE
    obtain ⟨G, hG, hlens, hdet⟩ := join_det a b ff tt lim one
    rw [hE] at hG hdet
    have HGL := Lib.hid hlens
    have HCA : Hid (∀ W, Below w1.heap.size w1 W → Calls Try.prog 40 #[.agg #[.int .i64 a.nodes, .slice A1 a.lines.length c1, .slice A2 a.srcs.length c2, .slice A3 a.users.length c3]] W fun e w' => ∃ E1 E2 E3 e1 e2 e3, e = .returned (.agg #[.int .i64 a.nodes, .slice E1 a.lines.length e1, .slice E2 a.srcs.length e2, .slice E3 a.users.length e3]) ∧ GridA w' w'.heap.size a E1 E2 E3 ∧ Below W.heap.size W w') := fun W hW => (copy_any a A1 A2 A3 c1 c2 c3 W (HG.out W hW).1 (few_far' hfa)).mono fun e w' ⟨E1, E2, E3, e1, e2, e3, he, ho, _, hb⟩ => ⟨E1, E2, E3, e1, e2, e3, he, ho.grid (HG.out W hW).1.ls.1 (HG.out W hW).1.ss.1 (HG.out W hW).1.us.1, hb⟩
    have HCB : Hid (∀ W, Below w1.heap.size w1 W → Calls Try.prog 40 #[.agg #[.int .i64 b.nodes, .slice B1 b.lines.length d1, .slice B2 b.srcs.length d2, .slice B3 b.users.length d3]] W fun e w' => ∃ E1 E2 E3 e1 e2 e3, e = .returned (.agg #[.int .i64 b.nodes, .slice E1 b.lines.length e1, .slice E2 b.srcs.length e2, .slice E3 b.users.length e3]) ∧ GridA w' w'.heap.size b E1 E2 E3 ∧ Below W.heap.size W w') := fun W hW => (copy_any b B1 B2 B3 d1 d2 d3 W (HG.out W hW).2 (few_far' hfb)).mono fun e w' ⟨E1, E2, E3, e1, e2, e3, he, ho, _, hb⟩ => ⟨E1, E2, E3, e1, e2, e3, he, ho.grid (HG.out W hW).2.ls.1 (HG.out W hW).2.ss.1 (HG.out W hW).2.us.1, hb⟩
    have H44 : Hid (∀ W E1 E2 E3 e1 e2 e3 F1 F2 F3 f1 f2 f3, GridA W W.heap.size a E1 E2 E3 → GridA W W.heap.size b F1 F2 F3 → Calls Try.prog 44 #[.agg #[.int .i64 a.nodes, .slice E1 a.lines.length e1, .slice E2 a.srcs.length e2, .slice E3 a.users.length e3], .agg #[.int .i64 b.nodes, .slice F1 b.lines.length f1, .slice F2 b.srcs.length f2, .slice F3 b.users.length f3], .int .i64 ff, .int .i64 tt, .agg #[.int .i64 la, .int .i64 lb, .int .i64 lim, .bool one]] W fun e w' => (∃ G1 G2 G3 g1 g2 g3, e = .returned (.tuple #[.agg #[.int .i64 G.nodes, .slice G1 G.lines.length g1, .slice G2 G.srcs.length g2, .slice G3 G.users.length g3], .int .i64 E]) ∧ OwnG w' W.heap.size G G1 G2 G3) ∧ Below W.heap.size W w') := fun W E1 E2 E3 e1 e2 e3 F1 F2 F3 f1 f2 f3 h1 h2 => (oJoin_any a b E1 E2 E3 e1 e2 e3 F1 F2 F3 f1 f2 f3 ff tt la lb lim one W h1 h2).mono fun e w' hp => hdet _ _ _ hp
    have H45 : Hid (∀ W, Below w1.heap.size w1 W → Calls Try.prog 45 #[.agg #[.int .i64 a.nodes, .slice A1 a.lines.length c1, .slice A2 a.srcs.length c2, .slice A3 a.users.length c3], .agg #[.int .i64 b.nodes, .slice B1 b.lines.length d1, .slice B2 b.srcs.length d2, .slice B3 b.users.length d3], .int .i64 ff, .int .i64 tt, .agg #[.int .i64 la, .int .i64 lb, .int .i64 lim, .bool one]] W fun e w' => (∃ G1 G2 G3 g1 g2 g3, e = .returned (.tuple #[.agg #[.int .i64 G.nodes, .slice G1 G.lines.length g1, .slice G2 G.srcs.length g2, .slice G3 G.users.length g3], .int .i64 E]) ∧ GridA w' w'.heap.size G G1 G2 G3) ∧ Below W.heap.size W w') := fun W hW => (rJoin_any a b A1 A2 A3 c1 c2 c3 B1 B2 B3 d1 d2 d3 ff tt la lb lim one W (HG.out W hW).1 (HG.out W hW).2).mono fun e w' hp => by
      obtain ⟨⟨G1, G2, G3, g1, g2, g3, he, ho⟩, hb⟩ := hdet _ _ _ hp
      exact ⟨⟨G1, G2, G3, g1, g2, g3, he, ho.grid HGL.out.1 HGL.out.2.1 HGL.out.2.2⟩, hb⟩
    have H37 : Hid (∀ W E1 E2 E3 e1 e2 e3 F1 F2 F3 f1 f2 f3, GridA W W.heap.size G E1 E2 E3 → GridA W W.heap.size G F1 F2 F3 → Calls Try.prog 37 #[.agg #[.int .i64 G.nodes, .slice E1 G.lines.length e1, .slice E2 G.srcs.length e2, .slice E3 G.users.length e3], .agg #[.int .i64 G.nodes, .slice F1 G.lines.length f1, .slice F2 G.srcs.length f2, .slice F3 G.users.length f3]] W fun e w' => e = .returned (.bool true) ∧ Below W.heap.size W w') := fun W E1 E2 E3 e1 e2 e3 F1 F2 F3 f1 f2 f3 h1 h2 => same_any G E1 E2 E3 F1 F2 F3 e1 e2 e3 f1 f2 f3 W h1 h2
    have HGE : Hid (E = 0 → G = joinG a b ff tt lim one) := hG
    clear h h' hb1 k1 k2 k3 hs1 hfa hfb hfar hdet hE hG hlens
    go_enter Try.func12, Try.ntmps12
    go_upto_region 3 with (first
      | (go_at_call 38; with_reducible refine (HFA.out _ HB0.out).mono ?_; rintro e' w2 ⟨rfl, hb2⟩; have HB2 : Below w1.heap.size w1 w2 := hb2; clear hb2 p0 p1 p2 p3 q0 q1 q2 q3 s0 s1 s2 s3 s4 s5; obtain ⟨_, ⟨p0, p1, p2, p3⟩, ⟨q0, q1, q2, q3⟩, s0, s1, s2, s3, s4, s5⟩ := HX.out w2 HB2)
      | (go_at_call 38; with_reducible refine (HFB.out _ HB2).mono ?_; rintro e' w3 ⟨rfl, hb3⟩; have hB3 : Below w1.heap.size w1 w3 := bel_next HB2 hb3; have hz3 : w1.heap.size ≤ w3.heap.size := hB3.size; clear hb3 p0 p1 p2 p3 q0 q1 q2 q3 s0 s1 s2 s3 s4 s5 HB2; obtain ⟨_, ⟨p0, p1, p2, p3⟩, ⟨q0, q1, q2, q3⟩, s0, s1, s2, s3, s4, s5⟩ := HX.out w3 hB3)
      | fail)
    clear HFA HFB
    go_cut [7, 8] (fun v7 v8 wx => ∃ gx G1 G2 G3 g1 g2 g3, v7 = .pointer (some ⟨gx, 0, none⟩) ∧ v8 = .int .i64 E ∧ Hid (wx.heap[gx]? = some (.cells #[.int .i64 G.nodes, .slice G1 G.lines.length g1, .slice G2 G.srcs.length g2, .slice G3 G.users.length g3] 26 (0, 0))) ∧ Hid (GridA wx wx.heap.size G G1 G2 G3) ∧ Hid (Below w1.heap.size w1 wx))
    case first =>
      --REGION
      go_region_held3 (fun W => (W.cell? ⟨w.heap.size, 0, none⟩ = some (.int .i64 a.nodes) ∧ W.cell? ⟨w.heap.size, 1, none⟩ = some (.slice A1 a.lines.length c1) ∧ W.cell? ⟨w.heap.size, 2, none⟩ = some (.slice A2 a.srcs.length c2) ∧ W.cell? ⟨w.heap.size, 3, none⟩ = some (.slice A3 a.users.length c3)) ∧ (W.cell? ⟨w.heap.size + 1, 0, none⟩ = some (.int .i64 b.nodes) ∧ W.cell? ⟨w.heap.size + 1, 1, none⟩ = some (.slice B1 b.lines.length d1) ∧ W.cell? ⟨w.heap.size + 1, 2, none⟩ = some (.slice B2 b.srcs.length d2) ∧ W.cell? ⟨w.heap.size + 1, 3, none⟩ = some (.slice B3 b.users.length d3)) ∧ W.cell? ⟨w.heap.size + 1 + 1, 0, none⟩ = some (.int .i64 ff) ∧ W.cell? ⟨w.heap.size + 1 + 1, 1, none⟩ = some (.int .i64 tt) ∧ W.cell? ⟨w.heap.size + 1 + 1, 2, none⟩ = some (.int .i64 la) ∧ W.cell? ⟨w.heap.size + 1 + 1, 3, none⟩ = some (.int .i64 lb) ∧ W.cell? ⟨w.heap.size + 1 + 1, 4, none⟩ = some (.int .i64 lim) ∧ W.cell? ⟨w.heap.size + 1 + 1, 5, none⟩ = some (.bool one)) (first | (refine (HX.out _ ?_).2; (repeat' (first | assumption | apply bel_alloc | apply bel_drew | apply bel_set')); done) | fail) ((first
        | (go_at_call 40; (with_reducible refine (HCA.out _ (by repeat' (first | assumption | apply bel_alloc | apply bel_drew))).mono ?_); rintro e' w5 ⟨E1, E2, E3, e1, e2, e3, rfl, hg5, hb5⟩; have HG5 := Lib.hid hg5; (try have HZ5 := Lib.hid ((hb5.block w3.heap.size (by simp)).trans (show (w3.alloc (.cells #[.int .i64 0, .slice none 0 0, .slice none 0 0, .slice none 0 0] 26)).drew.heap[w3.heap.size]? = _ from heap_alloc_new w3 (.cells #[.int .i64 0, .slice none 0 0, .slice none 0 0, .slice none 0 0] 26)))); have hB5 : Below w1.heap.size w1 w5 := bel_next (by repeat' (first | assumption | apply bel_alloc | apply bel_drew)) hb5; have hz5 : w1.heap.size ≤ w5.heap.size := hB5.size; clear hb5 hg5)
        | (go_at_call 40; (with_reducible refine (HCB.out _ (by repeat' (first | assumption | apply bel_alloc | apply bel_drew))).mono ?_); rintro e' w6 ⟨F1, F2, F3, f1, f2, f3, rfl, hg6, hb6⟩; have HG6 := Lib.hid hg6; (try have HZ6 := Lib.hid ((hb6.block w5.heap.size (by simp)).trans (heap_alloc_new w5 (.cells #[.int .i64 0, .slice none 0 0, .slice none 0 0, .slice none 0 0] 26)))); (try have HZ6 := Lib.hid ((hb6.block w3.heap.size (lt_of_cells HZ5.out)).trans HZ5.out)); have K56 : Below w5.heap.size w5 w6 := (by first | exact hb6 | exact ((Below.refl _ _).alloc (Nat.le_refl _) _).trans (hb6.mono (by simp))); have HG56 := Lib.hid ((HG5.out.keep K56).more K56.size); have HG56a := Lib.hid ((HG56.out.keep ((Below.refl w6.heap.size w6).alloc (Nat.le_refl _) (.cells #[.int .i64 0, .slice none 0 0, .slice none 0 0, .slice none 0 0] 26))).more (B' := (w6.alloc (.cells #[.int .i64 0, .slice none 0 0, .slice none 0 0, .slice none 0 0] 26)).heap.size) (by simp)); have HG6a := Lib.hid ((HG6.out.keep ((Below.refl w6.heap.size w6).alloc (Nat.le_refl _) (.cells #[.int .i64 0, .slice none 0 0, .slice none 0 0, .slice none 0 0] 26))).more (B' := (w6.alloc (.cells #[.int .i64 0, .slice none 0 0, .slice none 0 0, .slice none 0 0] 26)).heap.size) (by simp)); have hB6 : Below w1.heap.size w1 w6 := bel_next (by repeat' (first | assumption | apply bel_alloc | apply bel_drew)) hb6; have hz6 : w1.heap.size ≤ w6.heap.size := hB6.size; clear hb6 hg6)
        | (go_at_call 44; (with_reducible refine (H44.out _ E1 E2 E3 e1 e2 e3 F1 F2 F3 f1 f2 f3 ?_ ?_).mono ?_); (first | exact HG56.out | exact HG56a.out); (first | exact HG6.out | exact HG6a.out); rintro e' w7 ⟨⟨G1, G2, G3, g1, g2, g3, rfl, hg7⟩, hb7⟩; have HG7 := Lib.hid hg7; (try have HZ7 := Lib.hid ((hb7.block w6.heap.size (by simp)).trans (heap_alloc_new w6 (.cells #[.int .i64 0, .slice none 0 0, .slice none 0 0, .slice none 0 0] 26)))); (try have HZ7 := Lib.hid ((hb7.block w5.heap.size (lt_of_cells HZ6.out)).trans HZ6.out)); (try have HZ7 := Lib.hid ((hb7.block w3.heap.size (lt_of_cells HZ6.out)).trans HZ6.out)); have hB7 : Below w1.heap.size w1 w7 := bel_next (by repeat' (first | assumption | apply bel_alloc | apply bel_drew)) hb7; (try have y0 := cell_of_row w7 _ 0 _ _ _ HZ7.out); (try have y1 := cell_of_row w7 _ 1 _ _ _ HZ7.out); (try have y2 := cell_of_row w7 _ 2 _ _ _ HZ7.out); (try have y3 := cell_of_row w7 _ 3 _ _ _ HZ7.out); (try have f0 := row_frozen HZ7.out 0); (try have f1 := row_frozen HZ7.out 1); (try have f2 := row_frozen HZ7.out 2); (try have f3 := row_frozen HZ7.out 3); (try simp only [List.getElem?_toArray, List.getElem?_cons_succ, List.getElem?_cons_zero] at y0 y1 y2 y3); clear hb7 hg7)
        | fail))
      all_goals
        go_wp2_with fail
        go_meet
      all_goals (first
        | exact ⟨_, G1, G2, G3, g1, g2, g3, rfl, rfl, heap_alloc_new w7 _, (HG7.out.keep ((Below.refl _ _).alloc (Nat.le_refl _) _)).grid HGL.out.1 HGL.out.2.1 HGL.out.2.2, bel_alloc hB7 _⟩
        | exact ⟨_, G1, G2, G3, g1, g2, g3, rfl, rfl, set4_heap HZ7.out _ _ _ _, (set4_own HG7.out (show w6.heap.size < _ by simp) _ _ _ _).grid HGL.out.1 HGL.out.2.1 HGL.out.2.2, set4_below hB7 hz6 _ _ _ _⟩
        | exact ⟨_, G1, G2, G3, g1, g2, g3, rfl, rfl, set4_heap HZ7.out _ _ _ _, (set4_own HG7.out (lt_of_cells HZ6.out) _ _ _ _).grid HGL.out.1 HGL.out.2.1 HGL.out.2.2, set4_below hB7 hz5 _ _ _ _⟩
        | exact ⟨_, G1, G2, G3, g1, g2, g3, rfl, rfl, set4_heap HZ7.out _ _ _ _, (set4_own HG7.out (lt_of_cells HZ6.out) _ _ _ _).grid HGL.out.1 HGL.out.2.1 HGL.out.2.2, set4_below hB7 hz3 _ _ _ _⟩)
      --END
    case rest =>
      obtain ⟨gx, G1, G2, G3, g1, g2, g3, rfl, rfl, HGB, HGG, HB⟩ := hcut
      rename World => wx
      clear HCA HCB H44 p0 p1 p2 p3 q0 q1 q2 q3 s0 s1 s2 s3 s4 s5
      obtain ⟨_, ⟨p0, p1, p2, p3⟩, ⟨q0, q1, q2, q3⟩, s0, s1, s2, s3, s4, s5⟩ := HX.out wx HB.out
      have HXG : Hid (∀ W, Below wx.heap.size wx W → Below w1.heap.size w1 W ∧ W.cell? ⟨gx, 0, none⟩ = some (.int .i64 G.nodes) ∧ W.cell? ⟨gx, 1, none⟩ = some (.slice G1 G.lines.length g1) ∧ W.cell? ⟨gx, 2, none⟩ = some (.slice G2 G.srcs.length g2) ∧ W.cell? ⟨gx, 3, none⟩ = some (.slice G3 G.users.length g3)) := fun W hW => by
        have h1 := (hW.block gx (lt_of_cells HGB.out)).trans HGB.out
        exact ⟨bel_next HB.out hW, cell_of_row W _ 0 _ _ _ h1, cell_of_row W _ 1 _ _ _ h1, cell_of_row W _ 2 _ _ _ h1, cell_of_row W _ 3 _ _ _ h1⟩
      have HGW : Hid (∀ W, Below wx.heap.size wx W → GridA W W.heap.size G G1 G2 G3) := fun W hW => (HGG.out.keep hW).more hW.size
      obtain ⟨_, u0, u1, u2, u3⟩ := HXG.out wx (Below.refl _ _)
      have HBX0 : Hid (Below wx.heap.size wx wx) := Below.refl _ _
      by_cases hz : E = 0
      · subst hz
        have hGJ := HGE.out rfl
        obtain ⟨hka, hkb, _, hkg⟩ := joinE_ok HE.out
        rw [← hGJ] at hkg
        obtain ⟨na, hga⟩ := checkG_ok hka
        obtain ⟨nb, hgb⟩ := checkG_ok hkb
        obtain ⟨ng, hgg⟩ := checkG_ok hkg
        obtain ⟨m, hfa⟩ := flow_det hka
        have HFa : Hid (∀ W E1 E2 E3 e1 e2 e3 L l, GridA W W.heap.size a E1 E2 E3 → IntsA W W.heap.size L (allL a.users.length) → Calls Try.prog 22 #[.agg #[.int .i64 a.nodes, .slice E1 a.lines.length e1, .slice E2 a.srcs.length e2, .slice E3 a.users.length e3], .slice none 0 0, .slice L a.users.length l] W fun e w' => e = .returned (.tuple #[.int .i64 m, .int .i64 0]) ∧ (∃ n R, GridOk a n ∧ MostG a [] (allL a.users.length) n m R) ∧ Below W.heap.size W w') := fun W E1 E2 E3 e1 e2 e3 L l h1 h2 => by
          have := (Flow_any a E1 E2 E3 e1 e2 e3 none 0 [] L l (allL a.users.length) W h1 ⟨by decide, fun h => by simp at h⟩ (Nat.le_refl _) h2).mono fun e w' hp => hfa _ _ _ hp
          rw [allL_len] at this
          exact this
        obtain ⟨k, hfb⟩ := flow_det hkb
        have HFb : Hid (∀ W E1 E2 E3 e1 e2 e3 L l, GridA W W.heap.size b E1 E2 E3 → IntsA W W.heap.size L (allL b.users.length) → Calls Try.prog 22 #[.agg #[.int .i64 b.nodes, .slice E1 b.lines.length e1, .slice E2 b.srcs.length e2, .slice E3 b.users.length e3], .slice none 0 0, .slice L b.users.length l] W fun e w' => e = .returned (.tuple #[.int .i64 k, .int .i64 0]) ∧ (∃ n R, GridOk b n ∧ MostG b [] (allL b.users.length) n k R) ∧ Below W.heap.size W w') := fun W E1 E2 E3 e1 e2 e3 L l h1 h2 => by
          have := (Flow_any b E1 E2 E3 e1 e2 e3 none 0 [] L l (allL b.users.length) W h1 ⟨by decide, fun h => by simp at h⟩ (Nat.le_refl _) h2).mono fun e w' hp => hfb _ _ _ hp
          rw [allL_len] at this
          exact this
        obtain ⟨o, hfg⟩ := flow_det hkg
        have HFg : Hid (∀ W E1 E2 E3 e1 e2 e3 L l, GridA W W.heap.size G E1 E2 E3 → IntsA W W.heap.size L (allL G.users.length) → Calls Try.prog 22 #[.agg #[.int .i64 G.nodes, .slice E1 G.lines.length e1, .slice E2 G.srcs.length e2, .slice E3 G.users.length e3], .slice none 0 0, .slice L G.users.length l] W fun e w' => e = .returned (.tuple #[.int .i64 o, .int .i64 0]) ∧ (∃ n R, GridOk G n ∧ MostG G [] (allL G.users.length) n o R) ∧ Below W.heap.size W w') := fun W E1 E2 E3 e1 e2 e3 L l h1 h2 => by
          have := (Flow_any G E1 E2 E3 e1 e2 e3 none 0 [] L l (allL G.users.length) W h1 ⟨by decide, fun h => by simp at h⟩ (Nat.le_refl _) h2).mono fun e w' hp => hfg _ _ _ hp
          rw [allL_len] at this
          exact this
        have hfg : FewG G := ⟨by have := hgg.nl; omega, by have := hgg.ns; omega, by have := hgg.nu; omega⟩
        have HCA : Hid (∀ W, Below wx.heap.size wx W → Calls Try.prog 40 #[.agg #[.int .i64 a.nodes, .slice A1 a.lines.length c1, .slice A2 a.srcs.length c2, .slice A3 a.users.length c3]] W fun e w' => ∃ E1 E2 E3 e1 e2 e3, e = .returned (.agg #[.int .i64 a.nodes, .slice E1 a.lines.length e1, .slice E2 a.srcs.length e2, .slice E3 a.users.length e3]) ∧ GridA w' w'.heap.size a E1 E2 E3 ∧ Below W.heap.size W w') := fun W hW => (copy_any a A1 A2 A3 c1 c2 c3 W (HG.out W (HXG.out W hW).1).1 ⟨by have := hga.nl; omega, by have := hga.ns; omega, by have := hga.nu; omega⟩).mono fun e w' ⟨E1, E2, E3, e1, e2, e3, he, ho, _, hb⟩ => ⟨E1, E2, E3, e1, e2, e3, he, ho.grid (HG.out W (HXG.out W hW).1).1.ls.1 (HG.out W (HXG.out W hW).1).1.ss.1 (HG.out W (HXG.out W hW).1).1.us.1, hb⟩
        have HCB : Hid (∀ W, Below wx.heap.size wx W → Calls Try.prog 40 #[.agg #[.int .i64 b.nodes, .slice B1 b.lines.length d1, .slice B2 b.srcs.length d2, .slice B3 b.users.length d3]] W fun e w' => ∃ E1 E2 E3 e1 e2 e3, e = .returned (.agg #[.int .i64 b.nodes, .slice E1 b.lines.length e1, .slice E2 b.srcs.length e2, .slice E3 b.users.length e3]) ∧ GridA w' w'.heap.size b E1 E2 E3 ∧ Below W.heap.size W w') := fun W hW => (copy_any b B1 B2 B3 d1 d2 d3 W (HG.out W (HXG.out W hW).1).2 ⟨by have := hgb.nl; omega, by have := hgb.ns; omega, by have := hgb.nu; omega⟩).mono fun e w' ⟨E1, E2, E3, e1, e2, e3, he, ho, _, hb⟩ => ⟨E1, E2, E3, e1, e2, e3, he, ho.grid (HG.out W (HXG.out W hW).1).2.ls.1 (HG.out W (HXG.out W hW).1).2.ss.1 (HG.out W (HXG.out W hW).1).2.us.1, hb⟩
        have HCG : Hid (∀ W, Below wx.heap.size wx W → Calls Try.prog 40 #[.agg #[.int .i64 G.nodes, .slice G1 G.lines.length g1, .slice G2 G.srcs.length g2, .slice G3 G.users.length g3]] W fun e w' => ∃ E1 E2 E3 e1 e2 e3, e = .returned (.agg #[.int .i64 G.nodes, .slice E1 G.lines.length e1, .slice E2 G.srcs.length e2, .slice E3 G.users.length e3]) ∧ GridA w' w'.heap.size G E1 E2 E3 ∧ Below W.heap.size W w') := fun W hW => (copy_any G G1 G2 G3 g1 g2 g3 W (HGW.out W hW) hfg).mono fun e w' ⟨E1, E2, E3, e1, e2, e3, he, ho, _, hb⟩ => ⟨E1, E2, E3, e1, e2, e3, he, ho.grid HGL.out.1 HGL.out.2.1 HGL.out.2.2, hb⟩
        have HLA : Hid (∀ W, Below wx.heap.size wx W → Calls Try.prog 46 #[.agg #[.int .i64 a.nodes, .slice A1 a.lines.length c1, .slice A2 a.srcs.length c2, .slice A3 a.users.length c3]] W fun e w' => ∃ A c, e = .returned (.slice A a.users.length c) ∧ IntsA w' w'.heap.size A (allL a.users.length) ∧ Below W.heap.size W w') := fun W hW => alls_any a A1 A2 A3 c1 c2 c3 W (HG.out W (HXG.out W hW).1).1 (by have := hga.nu; omega)
        have HLB : Hid (∀ W, Below wx.heap.size wx W → Calls Try.prog 46 #[.agg #[.int .i64 b.nodes, .slice B1 b.lines.length d1, .slice B2 b.srcs.length d2, .slice B3 b.users.length d3]] W fun e w' => ∃ A c, e = .returned (.slice A b.users.length c) ∧ IntsA w' w'.heap.size A (allL b.users.length) ∧ Below W.heap.size W w') := fun W hW => alls_any b B1 B2 B3 d1 d2 d3 W (HG.out W (HXG.out W hW).1).2 (by have := hgb.nu; omega)
        have HLG : Hid (∀ W, Below wx.heap.size wx W → Calls Try.prog 46 #[.agg #[.int .i64 G.nodes, .slice G1 G.lines.length g1, .slice G2 G.srcs.length g2, .slice G3 G.users.length g3]] W fun e w' => ∃ A c, e = .returned (.slice A G.users.length c) ∧ IntsA w' w'.heap.size A (allL G.users.length) ∧ Below W.heap.size W w') := fun W hW => alls_any G G1 G2 G3 g1 g2 g3 W (HGW.out W hW) (by have := hgg.nu; omega)
        have hlim : 0 ≤ lim := by
          have h1 := hgg.line ⟨ff, tt + a.nodes, lim, one⟩ (by rw [hGJ]; simp [joinG])
          exact h1.2.2.2.1
        have HLAW : Hid ((∃ n R, GridOk a n ∧ MostG a [] (allL a.users.length) n m R) → (∃ n R, GridOk b n ∧ MostG b [] (allL b.users.length) n k R) → (∃ n R, GridOk G n ∧ MostG G [] (allL G.users.length) n o R) → ((0 ≤ m ∧ m ≤ 600000) ∧ (0 ≤ k ∧ k ≤ 600000) ∧ 0 ≤ o ∧ o ≤ 600000) ∧ m + k ≤ o ∧ (lim = 0 → o = m + k)) := by
          rintro ⟨n1, R1, g1, m1⟩ ⟨n2, R2, g2, m2⟩ ⟨n3, R3, g3, m3⟩
          refine ⟨⟨most_bd g1 m1, most_bd g2 m2, most_bd g3 m3⟩, ?_⟩
          rw [hGJ] at m3
          exact join_most g1 g2 m1 m2 m3 hlim
        have HLIM := Lib.hid hlim
        clear HGE hGJ hka hkb hkg hga hgb hgg hfa hfb hfg hlim
        go_upto_region 9 with (first
          | (go_at_call 45; refine (H45.out _ HB.out).mono ?_; rintro e' w8 ⟨⟨H1, H2, H3, h1, h2, h3, rfl, hg8⟩, hb8⟩; have HG8 := Lib.hid ((hg8.keep ((Below.refl w8.heap.size w8).alloc (Nat.le_refl _) (.cells #[.int .i64 G.nodes, .slice H1 G.lines.length h1, .slice H2 G.srcs.length h2, .slice H3 G.users.length h3] 26))).more (B' := (w8.alloc (.cells #[.int .i64 G.nodes, .slice H1 G.lines.length h1, .slice H2 G.srcs.length h2, .slice H3 G.users.length h3] 26)).heap.size) (by simp)); have HB8 : Hid (Below wx.heap.size wx (w8.alloc (.cells #[.int .i64 G.nodes, .slice H1 G.lines.length h1, .slice H2 G.srcs.length h2, .slice H3 G.users.length h3] 26))) := bel_alloc hb8 _; clear hb8 hg8 p0 p1 p2 p3 q0 q1 q2 q3 s0 s1 s2 s3 s4 s5 u0 u1 u2 u3; obtain ⟨_, u0, u1, u2, u3⟩ := HXG.out _ HB8.out)
          | (go_at_call 37; refine (H37.out _ G1 G2 G3 g1 g2 g3 H1 H2 H3 h1 h2 h3 (HGW.out _ HB8.out) HG8.out).mono ?_; rintro e' w9 ⟨rfl, hb9⟩; have HB9 : Hid (Below wx.heap.size wx w9) := bel_next HB8.out hb9; clear hb9 u0 u1 u2 u3)
          | fail)
        have HXS : Hid (∀ W, Below wx.heap.size wx W → ((W.cell? ⟨w.heap.size, 0, none⟩ = some (.int .i64 a.nodes) ∧ W.cell? ⟨w.heap.size, 1, none⟩ = some (.slice A1 a.lines.length c1) ∧ W.cell? ⟨w.heap.size, 2, none⟩ = some (.slice A2 a.srcs.length c2) ∧ W.cell? ⟨w.heap.size, 3, none⟩ = some (.slice A3 a.users.length c3)) ∧ (W.cell? ⟨w.heap.size + 1, 0, none⟩ = some (.int .i64 b.nodes) ∧ W.cell? ⟨w.heap.size + 1, 1, none⟩ = some (.slice B1 b.lines.length d1) ∧ W.cell? ⟨w.heap.size + 1, 2, none⟩ = some (.slice B2 b.srcs.length d2) ∧ W.cell? ⟨w.heap.size + 1, 3, none⟩ = some (.slice B3 b.users.length d3)) ∧ W.cell? ⟨w.heap.size + 1 + 1, 0, none⟩ = some (.int .i64 ff) ∧ W.cell? ⟨w.heap.size + 1 + 1, 1, none⟩ = some (.int .i64 tt) ∧ W.cell? ⟨w.heap.size + 1 + 1, 2, none⟩ = some (.int .i64 la) ∧ W.cell? ⟨w.heap.size + 1 + 1, 3, none⟩ = some (.int .i64 lb) ∧ W.cell? ⟨w.heap.size + 1 + 1, 4, none⟩ = some (.int .i64 lim) ∧ W.cell? ⟨w.heap.size + 1 + 1, 5, none⟩ = some (.bool one)) ∧ (W.cell? ⟨gx, 0, none⟩ = some (.int .i64 G.nodes) ∧ W.cell? ⟨gx, 1, none⟩ = some (.slice G1 G.lines.length g1) ∧ W.cell? ⟨gx, 2, none⟩ = some (.slice G2 G.srcs.length g2) ∧ W.cell? ⟨gx, 3, none⟩ = some (.slice G3 G.users.length g3))) := fun W hW => ⟨(HX.out W (HXG.out W hW).1).2, (HXG.out W hW).2⟩
        have hB9 := HB9.out
        obtain ⟨⟨⟨p0, p1, p2, p3⟩, ⟨q0, q1, q2, q3⟩, s0, s1, s2, s3, s4, s5⟩, u0, u1, u2, u3⟩ := HXS.out w9 hB9
        go_region_held3 (fun W => ((W.cell? ⟨w.heap.size, 0, none⟩ = some (.int .i64 a.nodes) ∧ W.cell? ⟨w.heap.size, 1, none⟩ = some (.slice A1 a.lines.length c1) ∧ W.cell? ⟨w.heap.size, 2, none⟩ = some (.slice A2 a.srcs.length c2) ∧ W.cell? ⟨w.heap.size, 3, none⟩ = some (.slice A3 a.users.length c3)) ∧ (W.cell? ⟨w.heap.size + 1, 0, none⟩ = some (.int .i64 b.nodes) ∧ W.cell? ⟨w.heap.size + 1, 1, none⟩ = some (.slice B1 b.lines.length d1) ∧ W.cell? ⟨w.heap.size + 1, 2, none⟩ = some (.slice B2 b.srcs.length d2) ∧ W.cell? ⟨w.heap.size + 1, 3, none⟩ = some (.slice B3 b.users.length d3)) ∧ W.cell? ⟨w.heap.size + 1 + 1, 0, none⟩ = some (.int .i64 ff) ∧ W.cell? ⟨w.heap.size + 1 + 1, 1, none⟩ = some (.int .i64 tt) ∧ W.cell? ⟨w.heap.size + 1 + 1, 2, none⟩ = some (.int .i64 la) ∧ W.cell? ⟨w.heap.size + 1 + 1, 3, none⟩ = some (.int .i64 lb) ∧ W.cell? ⟨w.heap.size + 1 + 1, 4, none⟩ = some (.int .i64 lim) ∧ W.cell? ⟨w.heap.size + 1 + 1, 5, none⟩ = some (.bool one)) ∧ (W.cell? ⟨gx, 0, none⟩ = some (.int .i64 G.nodes) ∧ W.cell? ⟨gx, 1, none⟩ = some (.slice G1 G.lines.length g1) ∧ W.cell? ⟨gx, 2, none⟩ = some (.slice G2 G.srcs.length g2) ∧ W.cell? ⟨gx, 3, none⟩ = some (.slice G3 G.users.length g3))) (first | (refine HXS.out _ ?_; (repeat' (first | assumption | apply bel_alloc | apply bel_drew)); done) | fail) ((first
          | (go_at_call 40; (with_reducible refine (HCA.out _ (by repeat' (first | assumption | apply bel_alloc | apply bel_drew))).mono ?_); rintro e' w10 ⟨E1a, E2a, E3a, e1a, e2a, e3a, rfl, hg10, hb10⟩; have HG10 := Lib.hid hg10; have hB10 : Below wx.heap.size wx w10 := bel_next (by repeat' (first | assumption | apply bel_alloc | apply bel_drew)) hb10; clear hb10 hg10)
          | (go_at_call 46; (with_reducible refine (HLA.out _ (by repeat' (first | assumption | apply bel_alloc | apply bel_drew))).mono ?_); rintro e' w11 ⟨LLa, lla, rfl, hi11, hb11⟩; have HI11 := Lib.hid hi11; have HG11 := Lib.hid ((HG10.out.keep hb11).more hb11.size); have hB11 : Below wx.heap.size wx w11 := bel_next (by repeat' (first | assumption | apply bel_alloc | apply bel_drew)) hb11; clear hb11 hi11)
          | (go_at_call 22; (with_reducible refine (HFa.out _ E1a E2a E3a e1a e2a e3a LLa lla HG11.out HI11.out).mono ?_); rintro e' w12 ⟨rfl, hm12, hb12⟩; have HM12 := Lib.hid hm12; have hB12 : Below wx.heap.size wx w12 := bel_next (by repeat' (first | assumption | apply bel_alloc | apply bel_drew)) hb12; clear hb12 hm12)
          | fail))
        clear p0 p1 p2 p3 q0 q1 q2 q3 s0 s1 s2 s3 s4 s5 u0 u1 u2 u3
        obtain ⟨⟨⟨p0, p1, p2, p3⟩, ⟨q0, q1, q2, q3⟩, s0, s1, s2, s3, s4, s5⟩, u0, u1, u2, u3⟩ := HXS.out w12 hB12
        go_upto_region 10 with fail
        go_region_held3 (fun W => ((W.cell? ⟨w.heap.size, 0, none⟩ = some (.int .i64 a.nodes) ∧ W.cell? ⟨w.heap.size, 1, none⟩ = some (.slice A1 a.lines.length c1) ∧ W.cell? ⟨w.heap.size, 2, none⟩ = some (.slice A2 a.srcs.length c2) ∧ W.cell? ⟨w.heap.size, 3, none⟩ = some (.slice A3 a.users.length c3)) ∧ (W.cell? ⟨w.heap.size + 1, 0, none⟩ = some (.int .i64 b.nodes) ∧ W.cell? ⟨w.heap.size + 1, 1, none⟩ = some (.slice B1 b.lines.length d1) ∧ W.cell? ⟨w.heap.size + 1, 2, none⟩ = some (.slice B2 b.srcs.length d2) ∧ W.cell? ⟨w.heap.size + 1, 3, none⟩ = some (.slice B3 b.users.length d3)) ∧ W.cell? ⟨w.heap.size + 1 + 1, 0, none⟩ = some (.int .i64 ff) ∧ W.cell? ⟨w.heap.size + 1 + 1, 1, none⟩ = some (.int .i64 tt) ∧ W.cell? ⟨w.heap.size + 1 + 1, 2, none⟩ = some (.int .i64 la) ∧ W.cell? ⟨w.heap.size + 1 + 1, 3, none⟩ = some (.int .i64 lb) ∧ W.cell? ⟨w.heap.size + 1 + 1, 4, none⟩ = some (.int .i64 lim) ∧ W.cell? ⟨w.heap.size + 1 + 1, 5, none⟩ = some (.bool one)) ∧ (W.cell? ⟨gx, 0, none⟩ = some (.int .i64 G.nodes) ∧ W.cell? ⟨gx, 1, none⟩ = some (.slice G1 G.lines.length g1) ∧ W.cell? ⟨gx, 2, none⟩ = some (.slice G2 G.srcs.length g2) ∧ W.cell? ⟨gx, 3, none⟩ = some (.slice G3 G.users.length g3))) (first | (refine HXS.out _ ?_; (repeat' (first | assumption | apply bel_alloc | apply bel_drew)); done) | fail) ((first
          | (go_at_call 40; (with_reducible refine (HCB.out _ (by repeat' (first | assumption | apply bel_alloc | apply bel_drew))).mono ?_); rintro e' w13 ⟨E1b, E2b, E3b, e1b, e2b, e3b, rfl, hg13, hb13⟩; have HG13 := Lib.hid hg13; have hB13 : Below wx.heap.size wx w13 := bel_next (by repeat' (first | assumption | apply bel_alloc | apply bel_drew)) hb13; clear hb13 hg13)
          | (go_at_call 46; (with_reducible refine (HLB.out _ (by repeat' (first | assumption | apply bel_alloc | apply bel_drew))).mono ?_); rintro e' w14 ⟨LLb, llb, rfl, hi14, hb14⟩; have HI14 := Lib.hid hi14; have HG14 := Lib.hid ((HG13.out.keep hb14).more hb14.size); have hB14 : Below wx.heap.size wx w14 := bel_next (by repeat' (first | assumption | apply bel_alloc | apply bel_drew)) hb14; clear hb14 hi14)
          | (go_at_call 22; (with_reducible refine (HFb.out _ E1b E2b E3b e1b e2b e3b LLb llb HG14.out HI14.out).mono ?_); rintro e' w15 ⟨rfl, hm15, hb15⟩; have HM15 := Lib.hid hm15; have hB15 : Below wx.heap.size wx w15 := bel_next (by repeat' (first | assumption | apply bel_alloc | apply bel_drew)) hb15; clear hb15 hm15)
          | fail))
        clear p0 p1 p2 p3 q0 q1 q2 q3 s0 s1 s2 s3 s4 s5 u0 u1 u2 u3
        obtain ⟨⟨⟨p0, p1, p2, p3⟩, ⟨q0, q1, q2, q3⟩, s0, s1, s2, s3, s4, s5⟩, u0, u1, u2, u3⟩ := HXS.out w15 hB15
        go_upto_region 11 with fail
        go_region_held3 (fun W => ((W.cell? ⟨w.heap.size, 0, none⟩ = some (.int .i64 a.nodes) ∧ W.cell? ⟨w.heap.size, 1, none⟩ = some (.slice A1 a.lines.length c1) ∧ W.cell? ⟨w.heap.size, 2, none⟩ = some (.slice A2 a.srcs.length c2) ∧ W.cell? ⟨w.heap.size, 3, none⟩ = some (.slice A3 a.users.length c3)) ∧ (W.cell? ⟨w.heap.size + 1, 0, none⟩ = some (.int .i64 b.nodes) ∧ W.cell? ⟨w.heap.size + 1, 1, none⟩ = some (.slice B1 b.lines.length d1) ∧ W.cell? ⟨w.heap.size + 1, 2, none⟩ = some (.slice B2 b.srcs.length d2) ∧ W.cell? ⟨w.heap.size + 1, 3, none⟩ = some (.slice B3 b.users.length d3)) ∧ W.cell? ⟨w.heap.size + 1 + 1, 0, none⟩ = some (.int .i64 ff) ∧ W.cell? ⟨w.heap.size + 1 + 1, 1, none⟩ = some (.int .i64 tt) ∧ W.cell? ⟨w.heap.size + 1 + 1, 2, none⟩ = some (.int .i64 la) ∧ W.cell? ⟨w.heap.size + 1 + 1, 3, none⟩ = some (.int .i64 lb) ∧ W.cell? ⟨w.heap.size + 1 + 1, 4, none⟩ = some (.int .i64 lim) ∧ W.cell? ⟨w.heap.size + 1 + 1, 5, none⟩ = some (.bool one)) ∧ (W.cell? ⟨gx, 0, none⟩ = some (.int .i64 G.nodes) ∧ W.cell? ⟨gx, 1, none⟩ = some (.slice G1 G.lines.length g1) ∧ W.cell? ⟨gx, 2, none⟩ = some (.slice G2 G.srcs.length g2) ∧ W.cell? ⟨gx, 3, none⟩ = some (.slice G3 G.users.length g3))) (first | (refine HXS.out _ ?_; (repeat' (first | assumption | apply bel_alloc | apply bel_drew)); done) | fail) ((first
          | (go_at_call 40; (with_reducible refine (HCG.out _ (by repeat' (first | assumption | apply bel_alloc | apply bel_drew))).mono ?_); rintro e' w16 ⟨E1g, E2g, E3g, e1g, e2g, e3g, rfl, hg16, hb16⟩; have HG16 := Lib.hid hg16; have hB16 : Below wx.heap.size wx w16 := bel_next (by repeat' (first | assumption | apply bel_alloc | apply bel_drew)) hb16; clear hb16 hg16)
          | (go_at_call 46; (with_reducible refine (HLG.out _ (by repeat' (first | assumption | apply bel_alloc | apply bel_drew))).mono ?_); rintro e' w17 ⟨LLg, llg, rfl, hi17, hb17⟩; have HI17 := Lib.hid hi17; have HG17 := Lib.hid ((HG16.out.keep hb17).more hb17.size); have hB17 : Below wx.heap.size wx w17 := bel_next (by repeat' (first | assumption | apply bel_alloc | apply bel_drew)) hb17; clear hb17 hi17)
          | (go_at_call 22; (with_reducible refine (HFg.out _ E1g E2g E3g e1g e2g e3g LLg llg HG17.out HI17.out).mono ?_); rintro e' w18 ⟨rfl, hm18, hb18⟩; have HM18 := Lib.hid hm18; have hB18 : Below wx.heap.size wx w18 := bel_next (by repeat' (first | assumption | apply bel_alloc | apply bel_drew)) hb18; clear hb18 hm18)
          | fail))
        clear p0 p1 p2 p3 q0 q1 q2 q3 s0 s1 s2 s3 s4 s5 u0 u1 u2 u3
        obtain ⟨⟨⟨p0, p1, p2, p3⟩, ⟨q0, q1, q2, q3⟩, s0, s1, s2, s3, s4, s5⟩, u0, u1, u2, u3⟩ := HXS.out w18 hB18
        obtain ⟨⟨⟨m0, m1⟩, ⟨k0, k1⟩, o0, o1⟩, hle, heq⟩ := HLAW.out HM12.out HM15.out HM18.out
        have hlim := HLIM.out
        by_cases hl0 : lim = 0
        · have ho := heq hl0
          subst hl0
          subst ho
          clear heq hle HLIM HLAW
          have t1 : ¬ (m + k < m + k) := by omega
          go_wp2_with (first
            | (go_at_call 16; refine (HWK.out _).mono ?_; rintro e' w20 ⟨rfl, hb20⟩; have HB20 := Lib.hid (bel_next hB18 hb20); clear hb20)
            | fail)
          go_ret
          exact ⟨rfl, (HX.out _ (bel_next HB.out HB20.out)).1⟩
        · have t1 : ¬ (o < m + k) := by omega
          have t2 : 0 < lim := by omega
          clear heq hl0 hlim HLIM HLAW
          go_wp2_with (first
            | (go_at_call 16; refine (HWK.out _).mono ?_; rintro e' w20 ⟨rfl, hb20⟩; have HB20 := Lib.hid (bel_next hB18 hb20); clear hb20)
            | fail)
          go_ret
          exact ⟨rfl, (HX.out _ (bel_next HB.out HB20.out)).1⟩
      · have hz' : (E != 0) = true := by simpa using hz
        have hzz : (E != E) = false := by simp
        clear HGE hz
        go_wp2_with (first
          | (go_at_call 45; refine (H45.out _ HB.out).mono ?_; rintro e' w8 ⟨⟨H1, H2, H3, h1, h2, h3, rfl, hg8⟩, hb8⟩; have HG8 := Lib.hid ((hg8.keep ((Below.refl w8.heap.size w8).alloc (Nat.le_refl _) (.cells #[.int .i64 G.nodes, .slice H1 G.lines.length h1, .slice H2 G.srcs.length h2, .slice H3 G.users.length h3] 26))).more (B' := (w8.alloc (.cells #[.int .i64 G.nodes, .slice H1 G.lines.length h1, .slice H2 G.srcs.length h2, .slice H3 G.users.length h3] 26)).heap.size) (by simp)); have HB8 : Hid (Below wx.heap.size wx (w8.alloc (.cells #[.int .i64 G.nodes, .slice H1 G.lines.length h1, .slice H2 G.srcs.length h2, .slice H3 G.users.length h3] 26))) := bel_alloc hb8 _; clear hb8 hg8 p0 p1 p2 p3 q0 q1 q2 q3 s0 s1 s2 s3 s4 s5 u0 u1 u2 u3; obtain ⟨_, u0, u1, u2, u3⟩ := HXG.out _ HB8.out)
          | (go_at_call 37; refine (H37.out _ G1 G2 G3 g1 g2 g3 H1 H2 H3 h1 h2 h3 (HGW.out _ HB8.out) HG8.out).mono ?_; rintro e' w9 ⟨rfl, hb9⟩; have HB9 : Hid (Below wx.heap.size wx w9) := bel_next HB8.out hb9; clear hb9 u0 u1 u2 u3)
          | (go_at_call 16; refine (HWK.out _).mono ?_; rintro e' w10 ⟨rfl, hb10⟩; have HB10 := Lib.hid (bel_next HB9.out hb10); clear hb10)
          | fail)
        go_ret
        exact ⟨rfl, (HX.out _ (bel_next HB.out HB10.out)).1⟩
end Go.Proofs.Ytegclodchhcbaaa
