/- Plain and walk: what our program asks of a line. -/
import Derived.Test.YtegclodchhcbaaaPo
import Derived.Test.YtegclodchhcbaaaFw
namespace Go.Proofs.Ytegclodchhcbaaa
open Go.RowKit

/-- every least cut parts x from y -/
def DirT (T : Tab) (sum : Int) (x y : Nat) : Prop := ∀ S : Nat → Bool, S 20 = true → S 21 = false → cutN 22 T S = sum → S x = true ∧ S y = false
noncomputable def dirB (T : Tab) (sum : Int) (x y : Nat) : Bool := @decide (DirT T sum x y) (Classical.propDecidable _)
theorem dirB_iff {T : Tab} {sum : Int} {x y : Nat} : dirB T sum x y = true ↔ DirT T sum x y := @decide_eq_true_iff _ (Classical.propDecidable _)
theorem narrow_two {g : MGrid} {n : Nat} (hg : GridOk g n) {want : List Int} (hw : WantOk g want) {T : Tab} {sum : Int} {R : Nat → Bool} {i : Nat} (hi : i < g.lines.length)
    (hT : ∀ S : Nat → Bool, S 20 = true → S 21 = false → cutN 22 T S = cutG g [] want S) (hM : Most 22 T 20 21 sum R) :
    (∀ S : Nat → Bool, cutG g [] want S = sum → 1 ≤ crossX (g.lines.getD i dLine) S) ↔ DirT T sum (g.lines.getD i dLine).a.toNat (g.lines.getD i dLine).b.toNat ∨ ((g.lines.getD i dLine).one = false ∧ DirT T sum (g.lines.getD i dLine).b.toNat (g.lines.getD i dLine).a.toNat) := by
  have hf := hg.few
  have hl := hg.line _ (getD_in hi dLine)
  have hMG : MostG g [] want n sum R := hM.grid hT hg hw (by omega) (by omega) (by omega) (by decide)
  have hx : ∀ S : Nat → Bool, (fun z => if z < n then S z else decide (z = 20)) 20 = true ∧ (fun z => if z < n then S z else decide (z = 20)) 21 = false := fun S => by
    constructor
    · simp; omega
    · simp; omega
  have hcut : ∀ S : Nat → Bool, cutN 22 T (fun z => if z < n then S z else decide (z = 20)) = cutG g [] want S := fun S => by
    rw [hT _ (hx S).1 (hx S).2]
    exact cutG_congr hg hw fun z hz => by simp [hz]
  have key : ∀ (x y : Nat), x < n → y < n → ((∀ S : Nat → Bool, cutG g [] want S = sum → S x = true ∧ S y = false) ↔ (∀ S : Nat → Bool, S 20 = true → S 21 = false → cutN 22 T S = sum → S x = true ∧ S y = false)) := fun x y hxn hyn => by
    constructor
    · intro h S s1 s2 hS
      rw [hT S s1 s2] at hS
      exact h S hS
    · intro h S hS
      have := h _ (hx S).1 (hx S).2 (by rw [hcut, hS])
      simpa [hxn, hyn] using this
  unfold DirT
  rw [← key _ _ (by omega) (by omega), ← key _ _ (by omega) (by omega)]
  generalize (g.lines.getD i dLine) = l at *
  constructor
  · intro h
    have hR := cross_iff.1 (h _ hMG.is)
    rcases hR with ⟨r1, r2⟩ | ⟨r0, r1, r2⟩
    · refine .inl fun S hS => ?_
      have ha := hMG.least S hS _ (by omega) r1
      rcases cross_iff.1 (h S hS) with h5 | ⟨_, _, h5⟩
      · exact h5
      · rw [ha] at h5; cases h5
    · refine .inr ⟨r0, fun S hS => ?_⟩
      have ha := hMG.least S hS _ (by omega) r1
      rcases cross_iff.1 (h S hS) with ⟨_, h5⟩ | ⟨_, h5, h6⟩
      · rw [ha] at h5; cases h5
      · exact ⟨h5, h6⟩
  · rintro (h | ⟨h0, h⟩) S hS
    · exact cross_iff.2 (.inl (h S hS))
    · exact cross_iff.2 (.inr ⟨h0, h S hS⟩)
theorem narB_two {g : MGrid} {n : Nat} (hg : GridOk g n) {T : Tab} {sum : Int} {R : Nat → Bool} {i : Nat} (hi : i < g.lines.length)
    (hT : ∀ S : Nat → Bool, S 20 = true → S 21 = false → cutN 22 T S = cutG g [] (allL g.users.length) S) (hM : Most 22 T 20 21 sum R) :
    narB g i = (dirB T sum (g.lines.getD i dLine).a.toNat (g.lines.getD i dLine).b.toNat || (!(g.lines.getD i dLine).one && dirB T sum (g.lines.getD i dLine).b.toNat (g.lines.getD i dLine).a.toNat)) := by
  have hf := hg.few
  rw [Bool.eq_iff_iff, narB_sum (hM.grid hT hg (allL_want g) (by omega) (by omega) (by omega) (by decide)) i, narrow_two hg (allL_want g) hi hT hM, Bool.or_eq_true, Bool.and_eq_true, dirB_iff, dirB_iff, Bool.not_eq_true']
theorem dirB_back {T c' : Tab} {sum : Int} {back back2 : Nat → Int} (hL : LeftF 22 T 20 21 c' sum) (hM : Most 22 T 20 21 sum (seen back)) (hb : BackOk 22 c' 20 back) {x y : Nat} (hx : x < 22) (h2 : BackOk 22 c' y back2) (h0 : 0 ≤ back x) : dirB T sum x y = decide (0 ≤ back2 21) := by
  rw [Bool.eq_iff_iff, dirB_iff, decide_eq_true_iff]
  exact (narrow_dir hL hM hb hx h2 (by decide)).trans ⟨fun h => h.2, fun h => ⟨h0, h⟩⟩
theorem dirB_neg {T : Tab} {sum : Int} {back : Nat → Int} (hM : Most 22 T 20 21 sum (seen back)) {x y : Nat} (h0 : back x < 0) : dirB T sum x y = false := by
  rcases e : dirB T sum x y
  · rfl
  · have h := (dirB_iff.1 e _ hM.src hM.snk hM.is).1
    unfold seen at h
    simp at h
    omega
set_option maxRecDepth 100000 in
set_option maxHeartbeats 8000000 in
theorem more_any (gb nb : Nat) (back : Nat → Int) (T c' : Tab) (sum : Int) (a b : Nat) (ha : a < 22) (hb : b < 22) (w : World) (hR : RowA w gb back) (hT : TabA w nb c') (hL : LeftF 22 T 20 21 c' sum) (hM : Most 22 T 20 21 sum (seen back)) (hB : BackOk 22 c' 20 back) :
    Calls Try.prog 75 #[.int .i64 a, .int .i64 b, .pointer (some ⟨gb, 0, none⟩), .pointer (some ⟨nb, 0, none⟩)] w fun e w' => e = .returned (.bool (dirB T sum a b)) ∧ Below w.heap.size w w' := by
  obtain ⟨Z, hZ⟩ : ∃ Z, Z = Array.replicate 484 (Value.int .i64 0) := ⟨_, rfl⟩
  have hz86 := zero86.1
  have hZS : Z.size = 484 := by rw [hZ]; simp
  rw [← hZ] at hz86
  clear hZ
  have ca := hR.cell ha
  by_cases h0 : back a < 0
  · have HD : Hid (dirB T sum a b = false) := dirB_neg hM h0
    clear hM hB hL hT hR
    go_enter Try.func75, Try.ntmps75
    go_wp2_with fail
    go_ret
    exact ⟨by rw [HD.out]; rfl, Below.refl _ _⟩
  · have HD : Hid (∀ back2, BackOk 22 c' b back2 → dirB T sum a b = decide (0 ≤ back2 21)) := fun back2 h2 => dirB_back hL hM hB ha h2 (by omega)
    obtain ⟨C0, hC1, hC2⟩ := hT
    have HC := Lib.hid hC2
    have HLD := Lib.hid hC1
    have hos : Z.size = C0.size := by rw [hC2.1, hZS]
    have HOS := Lib.hid hos
    have HNT : Hid (TabA (w.alloc (.cells C0 86)) w.heap.size c') := ⟨C0, heap_alloc_new w _, hC2⟩
    have HRC := Lib.hid (reach_any w.heap.size c' b (w.alloc (.cells C0 86)) HNT.out hb)
    have HB1 : Hid (Below w.heap.size w (w.alloc (.cells C0 86))) := (Below.refl _ _).alloc (Nat.le_refl _) _
    obtain ⟨d, hu⟩ : ∃ d, Try.prog.underlying 86 = some (.struct d) := ⟨_, Try.underlying86⟩
    clear hM hB hL hR hC1 hC2 hos
    go_enter Try.func75, Try.ntmps75
    go_wp2_with (first
      | (refine wpList_load_row rfl 86 _ rfl nb rfl 86 C0 (0, 0) (.struct d) HLD.out hu rfl HC.out.sz ?_)
      | (refine wpList_store_row rfl 86 _ _ rfl w.heap.size C0 rfl rfl 86 Z (heap_alloc_new w _) HC.out.sz HOS.out HC.out.one ?_; rw [World.setRow_alloc_new])
      | (go_at_call 67; refine HRC.out.mono ?_; rintro e w5 ⟨⟨C, back2, rfl, hC, hBK⟩, hb5⟩; have HC5 := Lib.hid hC; have HD5 := Lib.hid (HD.out back2 hBK); have HB5 := Lib.hid hb5; have hix : (Instr.index 83 (.agg C) (.int .i64 21)).run Try.prog w5 = .ok (.int .i64 (back2 21)) w5 := run_index83 hC (j := 21) (by decide) w5; clear hC hBK hb5)
      | fail)
    go_ret
    exact ⟨by rw [HD5.out]; rfl, HB1.out.trans (HB5.out.mono HB1.out.size)⟩
end Go.Proofs.Ytegclodchhcbaaa
