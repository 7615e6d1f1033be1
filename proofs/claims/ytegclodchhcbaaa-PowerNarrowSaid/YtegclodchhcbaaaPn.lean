/- Plain: a line is too narrow if every least cut is crossed by it. -/
import Derived.Test.YtegclodchhcbaaaPf
namespace Go.Proofs.Ytegclodchhcbaaa

theorem closed_of_zero {N : Nat} {c : Tab} {S : Nat → Bool} (hc : ∀ x y, 0 ≤ c x y) (h : cutN N c S = 0) : ∀ x y, x < N → y < N → S x = true → 0 < c x y → S y = true := fun x y hx hy hs hlt => by
  rcases e : S y
  · have := zero_cut hc h hx hy hs e
    omega
  · rfl
theorem narrow_dir {N : Nat} {T c' : Tab} {b e : Nat} {sum : Int} {back back2 : Nat → Int} (hL : LeftF N T b e c' sum) (hM : Most N T b e sum (seen back)) (hb : BackOk N c' b back) {x y : Nat} (hx : x < N) (h2 : BackOk N c' y back2) (heN : e < N) :
    (∀ S : Nat → Bool, S b = true → S e = false → cutN N T S = sum → S x = true ∧ S y = false) ↔ (0 ≤ back x ∧ 0 ≤ back2 e) := by
  constructor
  · intro h
    obtain ⟨h3, _⟩ := h _ hM.src hM.snk hM.is
    refine ⟨by unfold seen at h3; simpa using h3, ?_⟩
    rcases Int.lt_or_le (back2 e) 0 with h4 | h4
    · have hclosed : cutN N c' (fun z => seen back z || seen back2 z) = 0 := cut_zero fun u v hu hv hsu hsv => by
        simp only [Bool.or_eq_true, Bool.or_eq_false_iff] at hsu hsv
        have h5 := hL.nn u v
        rcases Int.lt_or_le 0 (c' u v) with h6 | h6
        · rcases hsu with hsu | hsu
          · have := hb.shut u v hu hv (by unfold seen at hsu; simpa using hsu) h6
            have h7 := hsv.1
            unfold seen at h7
            simp at h7
            omega
          · have := h2.shut u v hu hv (by unfold seen at hsu; simpa using hsu) h6
            have h7 := hsv.2
            unfold seen at h7
            simp at h7
            omega
        · omega
      have s1 : (seen back b || seen back2 b) = true := by rw [hM.src]; rfl
      have s2 : (seen back e || seen back2 e) = false := by
        rw [hM.snk, Bool.false_or]
        unfold seen
        simp
        omega
      have h5 := hL.cut (fun z => seen back z || seen back2 z) s1 s2
      have h6 := (h (fun z => seen back z || seen back2 z) s1 s2 (by omega)).2
      have h7 : seen back2 y = true := by unfold seen; rw [h2.self]; exact decide_eq_true (by omega)
      rw [h7] at h6
      simp at h6
    · exact h4
  · rintro ⟨h3, h4⟩ S s1 s2 hS
    have h5 := hL.cut S s1 s2
    have h6 : cutN N c' S = 0 := by omega
    refine ⟨hM.least S s1 s2 hS x hx (by unfold seen; simpa using h3), ?_⟩
    rcases e1 : S y
    · rfl
    · have := h2.within (S := S) e1 (closed_of_zero hL.nn h6) e heN h4
      rw [s2] at this
      cases this
/-- one more at a line -/
def wider (g : MGrid) (i : Nat) : MGrid := { g with lines := g.lines.set i { g.lines.getD i dLine with limit := (g.lines.getD i dLine).limit + 1 } }
def crossX (l : MLine) (S : Nat → Bool) : Int := ind (S l.a.toNat && !S l.b.toNat) 1 + ind (!l.one && (S l.b.toNat && !S l.a.toNat)) 1
theorem ind_one (p : Bool) (v : Int) : ind p (v + 1) = ind p v + ind p 1 := by
  unfold ind
  split <;> omega
theorem wider_line {g : MGrid} {i j : Nat} (hi : i < g.lines.length) : (wider g i).lines.getD j dLine = if j = i then { g.lines.getD i dLine with limit := (g.lines.getD i dLine).limit + 1 } else g.lines.getD j dLine := by
  unfold wider
  simp only [List.getD_eq_getElem?_getD, List.getElem?_set]
  by_cases h : j = i
  · subst h
    rw [if_pos rfl, if_pos rfl, if_pos hi]
    rfl
  · rw [if_neg (fun e => h e.symm), if_neg h]
theorem wider_cut {g : MGrid} {want : List Int} {i : Nat} (hi : i < g.lines.length) (S : Nat → Bool) : cutG (wider g i) [] want S = cutG g [] want S + crossX (g.lines.getD i dLine) S := by
  have hl : (wider g i).lines.length = g.lines.length := by unfold wider; simp
  have h1 : sumN (fun j => lineC [] S j ((wider g i).lines.getD j dLine)) g.lines.length = sumN (fun j => lineC [] S j (g.lines.getD j dLine)) g.lines.length + crossX (g.lines.getD i dLine) S := by
    rw [sumN_upd (f := fun j => lineC [] S j (g.lines.getD j dLine)) (g := fun j => lineC [] S j ((wider g i).lines.getD j dLine)) (j := i) hi fun k _ hk => by
      show lineC [] S k _ = lineC [] S k _
      rw [wider_line hi, if_neg hk]]
    have e : lineC [] S i ((wider g i).lines.getD i dLine) - lineC [] S i (g.lines.getD i dLine) = crossX (g.lines.getD i dLine) S := by
      rw [wider_line hi, if_pos rfl]
      unfold lineC crossX
      have hon : ∀ l : MLine, lineOn [] i l = true := fun l => rfl
      simp only [hon, Bool.true_and, ind_one]
      omega
    omega
  unfold cutG
  rw [hl, h1]
  have e2 : (wider g i).srcs = g.srcs := rfl
  have e3 : (wider g i).users = g.users := rfl
  rw [e2, e3]
  omega
theorem ind01 (p : Bool) : ind p 1 = 0 ∨ ind p 1 = 1 := by unfold ind; split <;> simp
theorem wider_more {g : MGrid} {n n' : Nat} {want : List Int} {i : Nat} (hi : i < g.lines.length) {sum sum' : Int} {R R' : Nat → Bool} (h : MostG g [] want n sum R) (h' : MostG (wider g i) [] want n' sum' R') :
    sum < sum' ↔ ∀ S : Nat → Bool, cutG g [] want S = sum → 1 ≤ crossX (g.lines.getD i dLine) S := by
  have hnn : ∀ S, 0 ≤ crossX (g.lines.getD i dLine) S := fun S => by
    unfold crossX
    have h1 := ind01 (S (g.lines.getD i dLine).a.toNat && !S (g.lines.getD i dLine).b.toNat)
    have h2 := ind01 (!(g.lines.getD i dLine).one && (S (g.lines.getD i dLine).b.toNat && !S (g.lines.getD i dLine).a.toNat))
    omega
  constructor
  · intro hlt S hS
    have h1 := h'.le S
    rw [wider_cut hi, hS] at h1
    omega
  · intro hall
    have h1 := h'.is
    rw [wider_cut hi] at h1
    have h2 := h.le R'
    have h3 := hnn R'
    by_cases e : cutG g [] want R' = sum
    · have := hall R' e
      omega
    · omega
theorem cross_iff {l : MLine} {S : Nat → Bool} : 1 ≤ crossX l S ↔ (S l.a.toNat = true ∧ S l.b.toNat = false) ∨ (l.one = false ∧ S l.b.toNat = true ∧ S l.a.toNat = false) := by
  unfold crossX ind
  rcases S l.a.toNat <;> rcases S l.b.toNat <;> rcases l.one <;> simp
/-- what our program asks of a line -/
theorem narrow_ok {g : MGrid} {n : Nat} (hg : GridOk g n) {want : List Int} (hw : WantOk g want) {T c' : Tab} {sum : Int} {back back2 back3 : Nat → Int} {i : Nat} (hi : i < g.lines.length)
    (hT : ∀ S : Nat → Bool, S 20 = true → S 21 = false → cutN 22 T S = cutG g [] want S) (hL : LeftF 22 T 20 21 c' sum) (hM : Most 22 T 20 21 sum (seen back)) (hb : BackOk 22 c' 20 back)
    (h2 : BackOk 22 c' (g.lines.getD i dLine).b.toNat back2) (h3 : BackOk 22 c' (g.lines.getD i dLine).a.toNat back3) :
    (∀ S : Nat → Bool, cutG g [] want S = sum → 1 ≤ crossX (g.lines.getD i dLine) S) ↔ (0 ≤ back (g.lines.getD i dLine).a.toNat ∧ 0 ≤ back2 21) ∨ ((g.lines.getD i dLine).one = false ∧ 0 ≤ back (g.lines.getD i dLine).b.toNat ∧ 0 ≤ back3 21) := by
  have hf := hg.few
  have hl := hg.line _ (getD_in hi dLine)
  have hMG : MostG g [] want n sum (seen back) := hM.grid hT hg hw (by omega) (by omega) (by omega) (by decide)
  have hx : ∀ S : Nat → Bool, (fun z => if z < n then S z else decide (z = 20)) 20 = true ∧ (fun z => if z < n then S z else decide (z = 20)) 21 = false := fun S => by
    constructor
    · simp; omega
    · simp; omega
  have hcut : ∀ S : Nat → Bool, cutN 22 T (fun z => if z < n then S z else decide (z = 20)) = cutG g [] want S := fun S => by
    rw [hT _ (hx S).1 (hx S).2]
    exact cutG_congr hg hw fun z hz => by simp [hz]
  have key : ∀ (x y : Nat), x < n → y < n → ((∀ S : Nat → Bool, cutG g [] want S = sum → S x = true ∧ S y = false) ↔ (∀ S : Nat → Bool, S 20 = true → S 21 = false → cutN 22 T S = sum → S x = true ∧ S y = false)) := fun x y hxn hyn => by
    constructor
    · intro h S s1 s2 hS
      rw [hT S s1 s2] at hS
      exact h S hS
    · intro h S hS
      have := h _ (hx S).1 (hx S).2 (by rw [hcut, hS])
      simpa [hxn, hyn] using this
  have d1 := narrow_dir hL hM hb (x := (g.lines.getD i dLine).a.toNat) (by omega) h2 (by decide)
  have d2 := narrow_dir hL hM hb (x := (g.lines.getD i dLine).b.toNat) (by omega) h3 (by decide)
  rw [← d1, ← d2, ← key _ _ (by omega) (by omega), ← key _ _ (by omega) (by omega)]
  generalize (g.lines.getD i dLine) = l at *
  constructor
  · intro h
    have hR := cross_iff.1 (h _ hMG.is)
    rcases hR with ⟨r1, r2⟩ | ⟨r0, r1, r2⟩
    · refine .inl fun S hS => ?_
      have ha := hMG.least S hS _ (by omega) r1
      rcases cross_iff.1 (h S hS) with h5 | ⟨_, _, h5⟩
      · exact h5
      · rw [ha] at h5; cases h5
    · refine .inr ⟨r0, fun S hS => ?_⟩
      have ha := hMG.least S hS _ (by omega) r1
      rcases cross_iff.1 (h S hS) with ⟨_, h5⟩ | ⟨_, h5, h6⟩
      · rw [ha] at h5; cases h5
      · exact ⟨h5, h6⟩
  · rintro (h | ⟨h0, h⟩) S hS
    · exact cross_iff.2 (.inl (h S hS))
    · exact cross_iff.2 (.inr ⟨h0, h S hS⟩)
end Go.Proofs.Ytegclodchhcbaaa
