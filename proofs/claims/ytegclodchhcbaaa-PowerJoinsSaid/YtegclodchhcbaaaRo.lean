/- Walks: Flow of a case, the reference's. -/
import Derived.Test.YtegclodchhcbaaaRh
import Derived.Test.YtegclodchhcbaaaRf
import Derived.Test.YtegclodchhcbaaaRm
import Derived.Test.YtegclodchhcbaaaFo
namespace Go.Proofs.Ytegclodchhcbaaa
open Go.RowKit

theorem sum_le_m {f : Nat → Int} {m : Int} : ∀ (n : Nat), (∀ k, k < n → f k ≤ m) → sumN f n ≤ n * m
  | 0, _ => by simp [sumN]
  | n + 1, hf => by
    have h1 := sum_le_m n fun k hk => hf k (by omega)
    have h2 := hf n (by omega)
    rw [sumN]
    push_cast
    rw [Int.add_mul, Int.one_mul]
    omega
theorem capN_le {c : Tab} {m : Int} (h : Bd c m) (N b : Nat) : capN N b c ≤ N * (N * m) := by
  have hm : 0 ≤ m := by have := h 0 0; omega
  unfold capN cutN
  refine sum_le_m N fun i _ => sum_le_m N fun k _ => ?_
  have := h i k
  show edge c _ i k ≤ m
  unfold edge
  split <;> omega
theorem filled_any (g : MGrid) (n : Nat) (F : List MFault) (want : List Int) (B tb : Nat) (rb : Nat → Nat) (w : World) (h : RTabA w B tb (n + 2) rb (refT g F want n (n + 1))) (hB : B ≤ w.heap.size) (hg : GridOk g n) (hwo : WantOk g want) (hwl : want.length ≤ 100) :
    Calls Try.prog 64 #[.slice (some ⟨tb, 0, none⟩) (n + 2) (n + 2)] w fun e w' => ∃ r, e = .returned r ∧ ∃ sum c' R, r = .int .i64 sum ∧ RTabA w' B tb (n + 2) rb c' ∧ LeftF (n + 2) (refT g F want n (n + 1)) n (n + 1) c' sum ∧ Most (n + 2) (refT g F want n (n + 1)) n (n + 1) sum R ∧ MostG g F want n sum R ∧ Below B w w' := by
  have hf := hg.few
  have hbd : Bd (refT g F want n (n + 1)) 109600000 := hg.refBd hwo hwl (Nat.le_refl _)
  have hc := capN_le hbd (n + 2) n
  have hc2 : ((n + 2 : Nat) : Int) * (((n + 2 : Nat) : Int) * 109600000) ≤ 22 * (22 * 109600000) := Int.mul_le_mul (by omega) (Int.mul_le_mul_of_nonneg_right (by omega) (by decide)) (by omega) (by decide)
  refine (fill_any B tb (n + 2) rb _ w h hB (by omega) (fun x y => (hbd x y).1) (fun x y => by have := hbd x y; omega) (by simp only [Nat.add_sub_cancel]; omega)).mono ?_
  rintro e w' ⟨sum, c', R, rfl, h1, h2, h3, h4⟩
  simp only [Nat.add_sub_cancel] at h2 h3
  have h2' : LeftF (n + 2) (refT g F want n (n + 1)) n (n + 1) c' sum := h2
  have h3' : Most (n + 2) (refT g F want n (n + 1)) n (n + 1) sum R := h3
  exact ⟨_, rfl, sum, c', R, rfl, h1, h2', h3', h3'.grid (fun S hb he => cut_refT hg hwo (by omega) (by omega) (by omega) hb he) hg hwo (by omega) (Nat.le_refl _) (by omega) (by omega), h4⟩
set_option maxRecDepth 100000 in
set_option maxHeartbeats 8000000 in
theorem rFlow_any (g : MGrid) (A1 A2 A3 : Option Addr) (c1 c2 c3 : Nat) (A : Option Addr) (cap : Nat) (F : List MFault) (Aw : Option Addr) (wc : Nat) (want : List Int) (w : World) (h : GridA w w.heap.size g A1 A2 A3) (hf : FaultsA w w.heap.size A F) (hw : IntsA w w.heap.size Aw want) :
    Calls Try.prog 24 #[.agg (gridC g A1 A2 A3 c1 c2 c3), .slice A F.length cap, .slice Aw want.length wc] w (FlowP g F want w) := by
  obtain ⟨w1, hw1⟩ : ∃ w1, w.alloc (.cells #[.int .i64 g.nodes, .slice A1 g.lines.length c1, .slice A2 g.srcs.length c2, .slice A3 g.users.length c3] 26) = w1 := ⟨_, rfl⟩
  have hb1 : Below w.heap.size w w1 := by rw [← hw1]; exact (Below.refl _ _).alloc (Nat.le_refl _) _
  have hs1 : w1.heap.size = w.heap.size + 1 := by rw [← hw1]; simp
  have hx1 : w1.heap[w.heap.size]? = some (.cells #[.int .i64 g.nodes, .slice A1 g.lines.length c1, .slice A2 g.srcs.length c2, .slice A3 g.users.length c3] 26 (0, 0)) := by rw [← hw1]; exact heap_alloc_new w _
  have HX : Hid (∀ W, Below w1.heap.size w1 W → Below w.heap.size w W ∧ W.cell? ⟨w.heap.size, 0, none⟩ = some (.int .i64 g.nodes) ∧ W.cell? ⟨w.heap.size, 1, none⟩ = some (.slice A1 g.lines.length c1) ∧ W.cell? ⟨w.heap.size, 2, none⟩ = some (.slice A2 g.srcs.length c2) ∧ W.cell? ⟨w.heap.size, 3, none⟩ = some (.slice A3 g.users.length c3)) := fun W hW => by
    have h1 := (hW.block w.heap.size (by omega)).trans hx1
    exact ⟨hb1.trans (hW.mono (by omega)), cell_of_row W _ 0 _ _ _ h1, cell_of_row W _ 1 _ _ _ h1, cell_of_row W _ 2 _ _ _ h1, cell_of_row W _ 3 _ _ _ h1⟩
  have HG : Hid (∀ W, Below w.heap.size w W → GridA W W.heap.size g A1 A2 A3 ∧ FaultsA W W.heap.size A F ∧ IntsA W W.heap.size Aw want) := fun W hW => ⟨(h.keep hW).more hW.size, (hf.keep hW).more hW.size, (hw.below hW (Nat.le_refl _)).more hW.size⟩
  obtain ⟨_, p0, p1, p2, p3⟩ := HX.out w1 (Below.refl _ _)
  obtain ⟨E, hE⟩ : ∃ E, checkA g F want = E := ⟨_, rfl⟩
  have HE := Lib.hid hE
  have HAL := Lib.hid (fun W hW => rcheckA_any g A1 A2 A3 c1 c2 c3 A cap F Aw wc want W (HG.out W hW).1 (HG.out W hW).2.1 (HG.out W hW).2.2 hE)
  by_cases hz : E = 0
  · subst hz
    obtain ⟨hk1, _, hk3⟩ := checkA_ok hE
    obtain ⟨n, hgo⟩ := checkG_ok hk1
    obtain ⟨hwo, hwl⟩ := checkW_ok hk3
    have hnu := hgo.nu
    have hwl2 : want.length ≤ 100 := by omega
    have HRM := Lib.hid (fun W hW => room_any g n A1 A2 A3 c1 c2 c3 A cap F Aw wc want W (HG.out W hW).1 (HG.out W hW).2.1 (HG.out W hW).2.2 hgo hwo hwl2)
    have HFI : Hid (∀ B tb rb W, RTabA W B tb (n + 2) rb (refT g F want n (n + 1)) → B ≤ W.heap.size → _) := fun B tb rb W hr hB => filled_any g n F want B tb rb W hr hB hgo hwo hwl2
    have HGO := Lib.hid hgo
    unfold gridC at HAL HRM ⊢
    clear h hf hw hb1 hx1 hk1 hk3 hE hgo hwo
    go_enter Try.func24, Try.ntmps24
    go_wp2_with (first
      | (go_at_call 62; refine (HAL.out _ (HX.out _ (Below.refl _ _)).1).mono ?_; rintro e w2 ⟨rfl, hb2⟩; have HB2 := Lib.hid hb2; clear hb2 p0 p1 p2 p3; obtain ⟨_, p0, p1, p2, p3⟩ := HX.out w2 HB2.out)
      | (go_at_call 63; refine (HRM.out _ (HX.out _ HB2.out).1).mono ?_; rintro e w3 ⟨⟨tb, rb, rfl, hr3⟩, hb3⟩; have HR3 := Lib.hid hr3; have HB3 := Lib.hid hb3; clear hr3 hb3 p0 p1 p2 p3)
      | (go_at_call 64; refine (HFI.out _ tb rb _ HR3.out HB3.out.size).mono ?_; rintro e w4 ⟨_, rfl, sum, c', R, rfl, _, _, _, hm4, hb4⟩; have HM4 := Lib.hid hm4; have HB4 := Lib.hid hb4; clear hm4 hb4)
      | fail)
    go_ret2
    exact ⟨(HX.out _ (HB2.out.trans ((HB3.out.trans (HB4.out.mono (Nat.le_refl _))).mono HB2.out.size))).1, sum, by rw [HE.out]; rfl, fun h => absurd HE.out h, fun _ => ⟨n, R, HGO.out, HM4.out⟩⟩
  · have hz' : (E != 0) = true := by simpa using hz
    have HZN : Hid (E ≠ 0) := hz
    unfold gridC at HAL ⊢
    clear h hf hw hb1 hx1 hE hz
    go_enter Try.func24, Try.ntmps24
    go_wp2_with (go_at_call 62; refine (HAL.out _ (HX.out _ (Below.refl _ _)).1).mono ?_; rintro e w2 ⟨rfl, hb2⟩; have HB2 := Lib.hid hb2; clear hb2)
    go_ret2
    exact ⟨(HX.out _ HB2.out).1, 0, by rw [HE.out]; rfl, fun _ => rfl, fun h => absurd (HE.out.symm.trans h) HZN.out⟩
end Go.Proofs.Ytegclodchhcbaaa
