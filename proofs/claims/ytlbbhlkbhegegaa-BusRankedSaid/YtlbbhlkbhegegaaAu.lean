/- Plain laws: ranks given from the lowest on: if Rank answers some, no frame is late; if it answers none, there are none. -/
import Derived.Test.YtlbbhlkbhegegaaRk4
import Derived.Test.YtlbbhlkbhegegaaMo2
namespace Go.Proofs.Ytlbbhlkbhegegaa
open Go.RowKit

/-- the frames of a lower rank number -/
def highF (R : Nat → Int) (i k : Nat) : Bool := decide (R k < R i)
def okF (l : List MFrame) (R : Nat → Int) (i : Nat) : Bool := match respS l (highF R i) i with
  | none => false
  | some n => decide (n ≤ (l.getD i ⟨0, 0, 0, 0, 0⟩).due)
theorem respS_congr {l : List MFrame} {ab ab' : Nat → Bool} {i : Nat} (hil : i < l.length) (h : ∀ k, k < l.length → ab k = ab' k) : respS l ab i = respS l ab' i := by
  have h1 := respS_ranked (R := fun _ => 0) hil h
  have h3 := respS_ranked (l := l) (R := fun _ => 0) (ab := ab) (ab' := ab) hil (fun _ _ => rfl)
  exact h3.symm.trans h1
/-- how many of the first n have no rank yet -/
def cntU (R : Nat → Int) : Nat → Nat
  | 0 => 0
  | n + 1 => cntU R n + if R n < 0 then 1 else 0
theorem cntU_upd {R : Nat → Int} {i : Nat} {x : Int} (hx : 0 ≤ x) (hi : R i < 0) : ∀ n, cntU R n = cntU (updR R i x) n + if i < n then 1 else 0
  | 0 => by simp [cntU]
  | n + 1 => by
    rw [cntU, cntU, cntU_upd hx hi n]
    by_cases e : n = i
    · subst e
      have h1 : updR R n x n = x := by unfold updR; rw [if_pos rfl]
      rw [h1, if_pos hi, if_neg (by omega), if_neg (by omega), if_pos (by omega)]
    · have h1 : updR R i x n = R n := by unfold updR; rw [if_neg e]
      rw [h1]
      by_cases h2 : i < n
      · rw [if_pos h2, if_pos (show i < n + 1 by omega)]; omega
      · rw [if_neg h2, if_neg (show ¬ i < n + 1 by omega)]; omega
theorem cntU_zero {R : Nat → Int} : ∀ n, cntU R n = 0 → ∀ k, k < n → 0 ≤ R k
  | 0, _, k, hk => by omega
  | n + 1, h, k, hk => by
    rw [cntU] at h
    by_cases h1 : R n < 0
    · rw [if_pos h1] at h; omega
    · rw [if_neg h1] at h
      by_cases e : k = n
      · subst e; omega
      · exact cntU_zero n (by omega) k (by omega)
theorem cntU_pos {R : Nat → Int} : ∀ n, 0 < cntU R n → ∃ k, k < n ∧ R k < 0
  | 0, h => by simp [cntU] at h
  | n + 1, h => by
    rw [cntU] at h
    by_cases h1 : R n < 0
    · exact ⟨n, by omega, h1⟩
    · rw [if_neg h1] at h
      obtain ⟨k, hk, hR⟩ := cntU_pos n (by omega)
      exact ⟨k, by omega, hR⟩
theorem cntU_all (n : Nat) : cntU (fun _ => -1) n = n := by
  induction n with
  | zero => rfl
  | succ n ih => rw [cntU, ih]; simp
theorem okLow_congr {l : List MFrame} {R Rf : Nat → Int} {i : Nat} (hil : i < l.length) (h : ∀ k, k < l.length → abR R i k = highF Rf i k) : okLow l R i = okF l Rf i := by
  unfold okLow okF
  rw [respS_congr hil h]
  rfl
/-- what the ranks are that rankGo gives -/
theorem rankGo_spec {l : List MFrame} : ∀ (r : Nat) (R Rf : Nat → Int), rankGo l r R = some Rf → RInv l.length r R → cntU R l.length = r → r ≤ 100 →
    (∀ k, k < l.length → 0 ≤ R k → Rf k = R k) ∧ (∀ k, k < l.length → R k < 0 → (0 ≤ Rf k ∧ Rf k < r) ∧ okF l Rf k = true) ∧ (∀ j k, j < l.length → k < l.length → j ≠ k → R j < 0 → R k < 0 → Rf j ≠ Rf k)
  | 0, R, Rf, h, _, hc, _ => by
    rw [rankGo] at h
    injection h with h
    subst h
    have h0 := cntU_zero l.length hc
    refine ⟨fun k _ _ => rfl, fun k hk hn => ?_, fun j k hj _ _ hn _ => ?_⟩
    · have := h0 k hk; omega
    · have := h0 j hj; omega
  | r + 1, R, Rf, h, hI, hc, hr => by
    rcases hn : nextLow l R with _ | i
    · rw [rankGo_none hn] at h; cases h
    · rw [rankGo_some hn] at h
      have hmem := List.mem_of_find?_eq_some hn
      have hil : i < l.length := List.mem_range.1 hmem
      have hlow : lowB l R i = true := by have := List.find?_some hn; simpa using this
      unfold lowB at hlow
      rw [Bool.and_eq_true] at hlow
      have hneg := of_decide_eq_true hlow.1
      have hc' : cntU (updR R i r) l.length = r := by
        have := cntU_upd (x := (r : Int)) (by omega) hneg l.length
        rw [if_pos hil] at this
        omega
      obtain ⟨h1, h2, h3⟩ := rankGo_spec r (updR R i r) Rf h (hI.upd (by omega)) hc' (by omega)
      have hi' : updR R i r i = r := by unfold updR; rw [if_pos rfl]
      have hne : ∀ k, k ≠ i → updR R i r k = R k := fun k hk => by unfold updR; rw [if_neg hk]
      have hRfi : Rf i = r := by rw [h1 i hil (by rw [hi']; omega), hi']
      have hlt : ∀ k, k < l.length → k ≠ i → R k < 0 → 0 ≤ Rf k ∧ Rf k < r := fun k hk hki hkn => (h2 k hk (by rw [hne k hki]; exact hkn)).1
      have hge : ∀ k, k < l.length → k ≠ i → 0 ≤ R k → Rf k = R k ∧ (r : Int) + 1 ≤ R k := fun k hk hki hkn => by
        have a := h1 k hk (by rw [hne k hki]; exact hkn)
        rw [hne k hki] at a
        have b := hI k hk
        refine ⟨a, ?_⟩
        have : ((r + 1 : Nat) : Int) = (r : Int) + 1 := by omega
        omega
      refine ⟨fun k hk h0 => ?_, fun k hk hkn => ?_, fun j k hj hk hjk hjn hkn => ?_⟩
      · have hki : k ≠ i := fun e => by subst e; omega
        exact (hge k hk hki h0).1
      · by_cases e : k = i
        · subst e
          refine ⟨by rw [hRfi]; omega, ?_⟩
          rw [← okLow_congr (R := R) hil fun q hq => ?_]
          · exact hlow.2
          · unfold abR highF
            rw [hRfi]
            by_cases e2 : q = k
            · subst e2
              rw [decide_eq_false (p := q ≠ q) (by simp), hRfi, decide_eq_false (Int.lt_irrefl _)]; rfl
            · rw [decide_eq_true (p := q ≠ k) e2, Bool.true_and]
              by_cases hqn : R q < 0
              · have := hlt q hq e2 hqn
                rw [decide_eq_true hqn, decide_eq_true this.2]
              · have := hge q hq e2 (by omega)
                rw [decide_eq_false hqn, decide_eq_false (by omega)]
        · have := h2 k hk (by rw [hne k e]; exact hkn)
          exact ⟨by omega, this.2⟩
      · by_cases e1 : j = i
        · subst e1
          have := hlt k hk (fun e => hjk e.symm) hkn
          omega
        · by_cases e2 : k = i
          · subst e2
            have := hlt j hj e1 hjn
            omega
          · exact h3 j k hj hk hjk (by rw [hne j e1]; exact hjn) (by rw [hne k e2]; exact hkn)
/-! ### the more is above, the longer -/
theorem above_more {l : List MFrame} {ab ab' : Nat → Bool} {i : Nat} {F : MFrame → Int} (hF : ∀ (k : Nat) (f : MFrame), l[k]? = some f → 1 ≤ F f ∧ 1 ≤ f.size) (hab : ∀ k, k < l.length → ab k = true → ab' k = true) (hi : ab' i = false) :
    ∀ k, k ≤ l.length → loadTo l ab F k ≤ loadTo l ab' F k ∧ 0 ≤ blockTo l ab' i k ∧ blockTo l ab' i k ≤ blockTo l ab i k ∧ blockTo l ab i k + loadTo l ab F k ≤ blockTo l ab' i k + loadTo l ab' F k
  | 0, _ => by simp [loadTo, blockTo]
  | k + 1, hk => by
    have ih := above_more (F := F) hF hab hi k (by omega)
    have hf : l[k]? = some l[k] := List.getElem?_eq_getElem (by omega)
    have h1 := hF k _ hf
    have hm : l[k].size ≤ F l[k] * l[k].size := by
      have := Int.mul_le_mul_of_nonneg_right h1.1 (show 0 ≤ l[k].size by omega)
      omega
    rw [loadTo_succ hf, loadTo_succ hf, blockTo_succ hf, blockTo_succ hf]
    by_cases e : k = i
    · subst e
      have ha : ab k = false := by
        rcases hx : ab k
        · rfl
        · have := hab k (by omega) hx; rw [hi] at this; cases this
      rw [ha, hi]
      simpa using ih
    · have hc := hab k (by omega)
      rcases ha : ab k <;> rcases ha' : ab' k
      · simp only [e, ne_eq, not_false_eq_true, and_self, ↓reduceIte, Bool.false_eq_true]
        omega
      · simp only [e, ne_eq, not_false_eq_true, and_self, ↓reduceIte, Bool.false_eq_true, Bool.true_eq_false, and_false]
        omega
      · rw [ha, ha'] at hc
        exact absurd (hc rfl) (by simp)
      · simp only [e, ne_eq, not_false_eq_true, ↓reduceIte, Bool.true_eq_false, and_false]
        omega
theorem resp_above {l : List MFrame} {ab ab' : Nat → Bool} {i : Nat} {own : MFrame} (hF : ∀ (k : Nat) (f : MFrame), l[k]? = some f → FOk f) (hl : l.length ≤ 40) (hi : l[i]? = some own) (hab : ∀ k, k < l.length → ab k = true → ab' k = true) (hii : ab' i = false) {y : Int} (hy : respS l ab' i = some y) : ∃ x, respS l ab i = some x ∧ x ≤ y := by
  rw [respS_W hi] at hy ⊢
  have hbd := blockTo_bd (ab := ab) (i := i) hF l.length (Nat.le_refl _)
  have hbd' := blockTo_bd (ab := ab') (i := i) hF l.length (Nat.le_refl _)
  have hO := hF i own hi
  refine respW_le ⟨hF, hF, hO, hO, hl, hl, hbd.1, hbd'.1, fun t ht => ?_, fun q t ht => ?_, Int.le_refl _, Int.le_refl _, Int.le_refl _⟩ hy
  · have h1 := above_more (F := manyUp t) (fun k f hf => ⟨by
      unfold manyUp
      exact (Int.le_ediv_iff_mul_le (by have := (hF k f hf).2.1.1; omega)).2 (by have := (hF k f hf).2.2.2.1.1; omega), (hF k f hf).1.1⟩) hab hii l.length (Nat.le_refl _)
    unfold busyS
    omega
  · have h1 := above_more (F := manyAt t) (fun k f hf => ⟨by
      unfold manyAt
      have : 0 ≤ (t + f.jitter) / f.every := Int.ediv_nonneg (by have := (hF k f hf).2.2.2.1.1; omega) (by have := (hF k f hf).2.1.1; omega)
      omega, (hF k f hf).1.1⟩) hab hii l.length (Nat.le_refl _)
    unfold waitS
    omega
/-- of some numbers there is one with the greatest value -/
theorem max_of (p : Nat → Prop) [DecidablePred p] (v : Nat → Int) : ∀ n, (∃ k, k < n ∧ p k) → ∃ k, k < n ∧ p k ∧ ∀ j, j < n → p j → v j ≤ v k
  | 0, h => by obtain ⟨k, hk, _⟩ := h; omega
  | n + 1, h => by
    by_cases hn : ∃ k, k < n ∧ p k
    · obtain ⟨k, hk, hpk, hmax⟩ := max_of p v n hn
      by_cases hpn : p n ∧ v k < v n
      · refine ⟨n, by omega, hpn.1, fun j hj hpj => ?_⟩
        by_cases e : j = n
        · rw [e]; exact Int.le_refl _
        · have := hmax j (by omega) hpj; omega
      · refine ⟨k, by omega, hpk, fun j hj hpj => ?_⟩
        by_cases e : j = n
        · subst e
          by_cases h1 : v k < v j
          · exact absurd ⟨hpj, h1⟩ hpn
          · omega
        · exact hmax j (by omega) hpj
    · obtain ⟨k, hk, hpk⟩ := h
      have e : k = n := by
        by_cases e : k = n
        · exact e
        · exact absurd ⟨k, by omega, hpk⟩ hn
      subst e
      refine ⟨k, by omega, hpk, fun j hj hpj => ?_⟩
      by_cases e : j = k
      · rw [e]; exact Int.le_refl _
      · exact absurd ⟨j, by omega, hpj⟩ hn
/-- if ranks are good, Rank answers some -/
theorem rankGo_ok {l : List MFrame} (hF : ∀ (k : Nat) (f : MFrame), l[k]? = some f → FOk f) (hl : l.length ≤ 40) {W : Nat → Int} (hd : ∀ j k, j < l.length → k < l.length → j ≠ k → W j ≠ W k) (hok : ∀ i, i < l.length → okF l W i = true) :
    ∀ (r : Nat) (R : Nat → Int), cntU R l.length = r → r ≤ 100 → rankGo l r R ≠ none
  | 0, R, _, _ => by rw [rankGo]; simp
  | r + 1, R, hc, hr => by
    rcases hn : nextLow l R with _ | i
    · exfalso
      obtain ⟨i, hil, hin, hmax⟩ := max_of (fun k => R k < 0) W l.length (cntU_pos l.length (by omega))
      have hi : l[i]? = some l[i] := List.getElem?_eq_getElem hil
      have hlow : lowB l R i = true := by
        unfold lowB
        rw [decide_eq_true hin, Bool.true_and]
        have h1 := hok i hil
        unfold okF at h1
        unfold okLow
        rcases h2 : respS l (highF W i) i with _ | y
        · rw [h2] at h1; cases h1
        · rw [h2] at h1
          have h1 := of_decide_eq_true h1
          obtain ⟨x, hx, hxy⟩ := resp_above (ab := abR R i) hF hl hi (fun k hk ha => by
            unfold abR at ha
            rw [Bool.and_eq_true] at ha
            have hki := of_decide_eq_true ha.1
            have hkn := of_decide_eq_true ha.2
            have h3 := hmax k hk hkn
            have h4 := hd k i hk hil hki
            unfold highF
            exact decide_eq_true (by omega)) (by unfold highF; exact decide_eq_false (Int.lt_irrefl _)) h2
          rw [hx]
          exact decide_eq_true (by omega)
      unfold nextLow at hn
      rw [List.find?_eq_none] at hn
      exact hn i (List.mem_range.2 hil) hlow
    · rw [rankGo_some hn]
      have hil : i < l.length := List.mem_range.1 (List.mem_of_find?_eq_some hn)
      have hlow : lowB l R i = true := by have := List.find?_some hn; simpa using this
      unfold lowB at hlow
      rw [Bool.and_eq_true] at hlow
      have hc' : cntU (updR R i r) l.length = r := by
        have := cntU_upd (x := (r : Int)) (by omega) (of_decide_eq_true hlow.1) l.length
        rw [if_pos hil] at this
        omega
      exact rankGo_ok hF hl hd hok r _ hc' (by omega)
end Go.Proofs.Ytlbbhlkbhegegaa
