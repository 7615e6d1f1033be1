/- Plain: when releases keep the patterns; why the law of the bus applies to them. -/
import Derived.Test.YtlbbhlkbhegegaaPl7
import Derived.Test.YtlbbhlkbhegegaaPl4
import Derived.Test.YtlbbhlkbhegegaaNl1
namespace Go.Proofs.Ytlbbhlkbhegegaa
open Go.RowKit

def keepOk (l : List MFrame) (rs : List MGate) (os : List Int) (k : Nat) : Bool :=
  inB (relAt rs k).delay (dueS l rs os k) (dueS l rs os k + (frAt l (relAt rs k).rate).jitter) && !decide ((relAt rs k).delay < lastTo rs (relAt rs k).rate k)
def keepsB (l : List MFrame) (rs : List MGate) (os : List Int) : Bool := (List.range rs.length).all (keepOk l rs os)
/-- what Keeps answers -/
def keepsS (l : List MFrame) (rs : List MGate) (os : List Int) : Bool × Int :=
  if relS l rs = 0 then (if os.length = l.length ∧ os.all offB = true then (keepsB l rs os, 0) else (false, 1)) else (false, relS l rs)
theorem keepsS_err {l : List MFrame} {rs : List MGate} {os : List Int} (h : relS l rs ≠ 0) : keepsS l rs os = (false, relS l rs) := by unfold keepsS; rw [if_neg h]
theorem keepsS_arg {l : List MFrame} {rs : List MGate} {os : List Int} (h : relS l rs = 0) (h1 : ¬ (os.length = l.length ∧ os.all offB = true)) : keepsS l rs os = (false, 1) := by unfold keepsS; rw [if_pos h, if_neg h1]
theorem keepsS_ok {l : List MFrame} {rs : List MGate} {os : List Int} (h : relS l rs = 0) (h1 : os.length = l.length) (h2 : os.all offB = true) : keepsS l rs os = (keepsB l rs os, 0) := by unfold keepsS; rw [if_pos h, if_pos ⟨h1, h2⟩]
theorem keepsB_no {l : List MFrame} {rs : List MGate} {os : List Int} {k : Nat} (hk : k < rs.length) (h : keepOk l rs os k = false) : keepsB l rs os = false := range_no hk h
theorem keepsB_yes {l : List MFrame} {rs : List MGate} {os : List Int} (h : ∀ k, k < rs.length → keepOk l rs os k = true) : keepsB l rs os = true := range_yes h
theorem keepOk_parts {l : List MFrame} {rs : List MGate} {os : List Int} {k : Nat} (h : keepOk l rs os k = true) : dueS l rs os k ≤ (relAt rs k).delay ∧ (relAt rs k).delay ≤ dueS l rs os k + (frAt l (relAt rs k).rate).jitter ∧ lastTo rs (relAt rs k).rate k ≤ (relAt rs k).delay := by
  unfold keepOk at h
  rw [Bool.and_eq_true, inB_iff'] at h
  have h2 := h.2
  simp at h2
  exact ⟨h.1.1, h.1.2, h2⟩
theorem keepsB_at {l : List MFrame} {rs : List MGate} {os : List Int} (h : keepsB l rs os = true) {k : Nat} (hk : k < rs.length) : keepOk l rs os k = true := by
  unfold keepsB at h
  rw [List.all_eq_true] at h
  exact h k (List.mem_range.2 hk)
theorem lastTo_ge {l : List MFrame} {rs : List MGate} {os : List Int} (h : keepsB l rs os = true) {f : Int} : ∀ {k j : Nat}, j < k → k ≤ rs.length → (relAt rs j).rate = f → (relAt rs j).delay ≤ lastTo rs f k
  | 0, _, hj, _, _ => by omega
  | k + 1, j, hj, hk, hf => by
    rw [lastTo]
    by_cases e : (relAt rs k).rate = f
    · rw [if_pos e]
      by_cases e2 : j = k
      · subst e2; exact Int.le_refl _
      · have h1 := lastTo_ge h (f := f) (k := k) (j := j) (by omega) (by omega) hf
        have h2 := (keepOk_parts (keepsB_at h (k := k) (by omega))).2.2
        rw [e] at h2
        omega
    · rw [if_neg e]
      exact lastTo_ge h (by
        rcases Nat.lt_or_ge j k with h1 | h1
        · exact h1
        · obtain rfl : j = k := by omega
          exact absurd hf e) (by omega) hf
def frN (rs : List MGate) (k : Nat) : Nat := (relAt rs k).rate.toNat
def frmN (l : List MFrame) (h : Nat) : MFrame := l.getD h ⟨0, 0, 0, 0, 0⟩
theorem rate_nn {n : Nat} {rs : List MGate} (h : relsB n rs = true) (k : Nat) : 0 ≤ (relAt rs k).rate := by
  rcases Nat.lt_or_ge k rs.length with hk | hk
  · have hk' : rs[k]? = some rs[k] := List.getElem?_eq_getElem hk
    rw [relAt_of hk']
    exact (relsB_at h hk').1.1
  · unfold relAt
    rw [List.getD_eq_getElem?_getD, List.getElem?_eq_none hk]
    exact Int.le_refl _
theorem frAt_N (l : List MFrame) (i : Int) : frAt l i = frmN l i.toNat := rfl
theorem played_of {l : List MFrame} {rs : List MGate} {os : List Int} (hz : relS l rs = 0) (hk : keepsB l rs os = true) :
    Played rs.length l.length (frN rs) (fun k => (relAt rs k).delay) (playS l rs) (fun h => (frmN l h).size) (fun h => (frmN l h).every) (fun h => (frmN l h).jitter) (fun h => (frmN l h).rank) (fun h => os.getD h 0) (fun h k => sameTo rs (h : Int) k) := by
  obtain ⟨hv, _, hR⟩ := relS_parts hz
  obtain ⟨hP, _⟩ := play_ok hz
  have hfr : ∀ k, k < rs.length → (0 ≤ (relAt rs k).rate ∧ (relAt rs k).rate < l.length) ∧ 0 ≤ (relAt rs k).delay := fun k hk => by
    have hk' : rs[k]? = some rs[k] := List.getElem?_eq_getElem hk
    rw [relAt_of hk']
    have := relsB_at hR hk'
    exact ⟨this.1, this.2.1⟩
  have hf : ∀ h, h < l.length → l[h]? = some (frmN l h) := fun h hh => by
    unfold frmN
    rw [List.getD_eq_getElem?_getD, List.getElem?_eq_getElem hh]; rfl
  have hN : ∀ k, k < rs.length → ((frN rs k : Nat) : Int) = (relAt rs k).rate := fun k hk => by have := hfr k hk; unfold frN; omega
  refine ⟨fun k hk => by have := hfr k hk; unfold frN; omega, fun h hh => ((framesB_parts hv).2 h _ (hf h hh)).1.1, fun h hh => ((framesB_parts hv).2 h _ (hf h hh)).2.1.1, fun h hh => ((framesB_parts hv).2 h _ (hf h hh)).2.2.2.1.1,
    fun k hk => (hfr k hk).2, fun h g hh hg e => ?_, fun k hk => hP.at_ k hk, fun i j hi hj hij => hP.apart i j hi hj hij, fun t k hk h1 h2 => hP.busy t k hk h1 h2, fun i k hi hk h1 h2 => ?_, fun k hkl => ?_, fun j k hjk hkl e => ?_, fun h => rfl, fun h k => ?_⟩
  · apply Classical.byContradiction
    intro hne
    exact frames_rank hv (hf h hh) (hf g hg) hne e
  · obtain ⟨g1, g2⟩ := hP.best i k hi hk h1 h2
    obtain ⟨ra, rb, e, e1, e2⟩ := before_key hv (hfr k hk).1 (hfr i hi).1
    obtain ⟨rc, rd, e', e3, e4⟩ := before_key hv (hfr i hi).1 (hfr k hk).1
    rw [e] at g1
    rw [e'] at g2
    have e1 : ra = (frmN l (frN rs k)).rank := e1
    have e2 : rb = (frmN l (frN rs i)).rank := e2
    have e3 : rc = (frmN l (frN rs i)).rank := e3
    have e4 : rd = (frmN l (frN rs k)).rank := e4
    have g1 := of_decide_eq_false g1
    refine ⟨?_, fun hki => ?_⟩
    · rw [← e1, ← e2]; exact g1
    · have := of_decide_eq_true (g2 hki)
      rw [← e3, ← e4]; exact this
  · have h1 := keepOk_parts (keepsB_at hk hkl)
    have h2 : dueS l rs os k = os.getD (frN rs k) 0 + (sameTo rs ((frN rs k : Nat) : Int) k : Int) * (frmN l (frN rs k)).every := by rw [hN k hkl]; rfl
    rw [← h2]
    exact ⟨h1.1, h1.2.1⟩
  · have h1 := (keepOk_parts (keepsB_at hk hkl)).2.2
    have h2 : (relAt rs j).rate = (relAt rs k).rate := by rw [← hN j (by omega), ← hN k hkl, e]
    exact Int.le_trans (lastTo_ge hk hjk (by omega) h2) h1
  · have h1 := rate_nn hR k
    show sameTo rs (h : Int) (k + 1) = _
    rw [sameTo]
    by_cases e : (relAt rs k).rate = h
    · rw [if_pos e, if_pos (show frN rs k = h by unfold frN; omega)]
    · rw [if_neg e, if_neg (show ¬ frN rs k = h by unfold frN; omega)]
theorem load_sum (l : List MFrame) (ab : Nat → Bool) (F : MFrame → Int) : ∀ k, loadTo l ab F k = sumN (fun h => if ab h = true then F (frmN l h) * (frmN l h).size else 0) k
  | 0 => rfl
  | k + 1 => by rw [loadTo, sumN, load_sum l ab F k]; rfl
theorem block_ge {l : List MFrame} {ab : Nat → Bool} {i : Nat} : ∀ {k h : Nat}, h < k → h ≠ i → ab h = false → (frmN l h).size - 1 ≤ blockTo l ab i k
  | 0, _, hh, _, _ => by omega
  | k + 1, h, hh, hne, ha => by
    rw [blockTo]
    by_cases e : h = k
    · subst e
      rw [if_pos ⟨hne, ha⟩]
      exact Int.le_max_right _ _
    · have := block_ge (l := l) (ab := ab) (i := i) (k := k) (h := h) (by omega) hne ha
      split
      · exact Int.le_trans this (Int.le_max_left _ _)
      · exact this
theorem long_each {l : List MFrame} {ab : Nat → Bool} {block : Int} {own : MFrame} : ∀ {d : Nat} {x : Int}, longTo l ab block own d = some x → ∀ q, q < d → ∃ W, settleS (waitS l ab block own q) 1000002 (block + (q : Int) * own.size) = some W ∧ W + own.size + own.jitter - q * own.every ≤ x
  | 0, _, _, q, hq => by omega
  | d + 1, x, h, q, hq => by
    rw [longTo] at h
    rcases h1 : longTo l ab block own d with _ | m
    · rw [h1] at h; cases h
    · rw [h1] at h
      rcases h2 : settleS (waitS l ab block own d) 1000002 (block + (d : Int) * own.size) with _ | y
      · simp only [h2] at h; cases h
      · simp only [h2] at h
        injection h with h
        by_cases e : q = d
        · subst e
          exact ⟨y, h2, by omega⟩
        · obtain ⟨W, hW, hle⟩ := long_each h1 q (by omega)
          exact ⟨W, hW, by omega⟩
/-- what the statement asks -/
theorem no_later {l : List MFrame} {rs : List MGate} {os : List Int} (hz : relS l rs = 0) (hk : keepsB l rs os = true) {i : Nat} (hi : i < rs.length) (hm : 0 ≤ respZ l (frN rs i)) : playS l rs i ≤ dueS l rs os i + respZ l (frN rs i) := by
  obtain ⟨hv, _, hR⟩ := relS_parts hz
  have H := played_of hz hk
  have hfl := H.frm i hi
  have hF := framesF hv
  have hf : l[frN rs i]? = some (frmN l (frN rs i)) := by
    unfold frmN
    rw [List.getD_eq_getElem?_getD, List.getElem?_eq_getElem hfl]; rfl
  have hN : ((frN rs i : Nat) : Int) = (relAt rs i).rate := by have := rate_nn hR i; unfold frN; omega
  have hdue : dueS l rs os i = os.getD (frN rs i) 0 + (sameTo rs ((frN rs i : Nat) : Int) i : Int) * (frmN l (frN rs i)).every := by rw [hN]; rfl
  rw [hdue]
  rcases hr : respI l (frN rs i) with _ | R
  · unfold respZ at hm; rw [hr] at hm; simp at hm
  have hRZ : respZ l (frN rs i) = R := by unfold respZ; rw [hr]; rfl
  rw [hRZ]
  rw [respI_of hf] at hr
  generalize hp : frN rs i = p at *
  generalize hown : frmN l p = own at *
  have e : l.getD p ⟨0, 0, 0, 0, 0⟩ = own := by rw [List.getD_eq_getElem?_getD, hf]; rfl
  simp only [respS, e] at hr
  rcases h1 : settleS (busyS l (higherB l own.rank) (blockTo l (higherB l own.rank) p l.length) own) 1000002 1 with _ | B
  · simp only [h1] at hr; cases hr
  · simp only [h1] at hr
    have hO := hF p own hf
    have hl := (framesB_parts hv).1
    have hb0 := (blockTo_bd (ab := higherB l own.rank) (i := p) hF l.length (Nat.le_refl _)).1
    have hst := busy_start (ab := higherB l own.rank) (block := blockTo l (higherB l own.rank) p l.length) hF hO hl hb0
    have hB1 : 1 ≤ B := settle_ge (n0 := 1) (fun y hy => Int.le_trans hst (busyS_mono hF hO hy)) _ _ (Int.le_refl _) h1
    have hfix := (settle_fix _ _ h1).1
    rw [← rbusy_eq hv hf hfl] at hfix
    unfold rbusyS at hfix
    rw [load_sum] at hfix
    have hres := H.noLater hi (block := blockTo l (higherB l own.rank) p l.length) (B := B) (R := R) hb0 (fun h hh hrk => ?_) hB1 ?_ (fun q hq => ?_)
    · rw [hp] at hres
      simp only [hown] at hres
      exact hres
    · rw [hp] at hrk
      simp only [hown] at hrk
      refine block_ge hh (fun e => by subst e; rw [hown] at hrk; omega) ?_
      exact decide_eq_false (by have : (l.getD h ⟨0, 0, 0, 0, 0⟩).rank = (frmN l h).rank := rfl; omega)
    · rw [hp]
      simp only [hown]
      have : sumN (fun h => if (frmN l h).rank ≤ own.rank then (B + (frmN l h).jitter + (frmN l h).every - 1) / (frmN l h).every * (frmN l h).size else 0) l.length = sumN (fun h => if leB l own.rank h = true then manyUp B (frmN l h) * (frmN l h).size else 0) l.length := sumN_congr fun h _ => by
        by_cases e : (frmN l h).rank ≤ own.rank
        · have e2 : leB l own.rank h = true := decide_eq_true e
          rw [if_pos e, if_pos e2]; rfl
        · have e2 : leB l own.rank h = false := decide_eq_false e
          rw [if_neg e, if_neg (by rw [e2]; simp)]
      rw [this]
      omega
    · rw [hp] at hq ⊢
      simp only [hown] at hq ⊢
      obtain ⟨W, hW, hle⟩ := long_each hr q (by omega)
      have hq0 : 0 ≤ (q : Int) * own.size := Int.mul_nonneg (by omega) (by have := hO.1; omega)
      have hWf := (settle_fix _ _ hW).1
      have hW0 : 0 ≤ W := settle_ge (n0 := 0) (fun y hy => by
        have := loadTo_nn (ab := higherB l own.rank) hF hy l.length (Nat.le_refl _)
        unfold waitS
        omega) _ _ (by omega) hW
      refine ⟨W, hW0, ?_, hle⟩
      unfold waitS at hWf
      rw [load_sum] at hWf
      have : sumN (fun h => if (frmN l h).rank < own.rank then ((W + (frmN l h).jitter) / (frmN l h).every + 1) * (frmN l h).size else 0) l.length = sumN (fun h => if higherB l own.rank h = true then manyAt W (frmN l h) * (frmN l h).size else 0) l.length := sumN_congr fun h _ => by
        by_cases e : (frmN l h).rank < own.rank
        · have e2 : higherB l own.rank h = true := decide_eq_true e
          rw [if_pos e, if_pos e2]; rfl
        · have e2 : higherB l own.rank h = false := decide_eq_false e
          rw [if_neg e, if_neg (by rw [e2]; simp)]
      rw [this]
      omega
end Go.Proofs.Ytlbbhlkbhegegaa
