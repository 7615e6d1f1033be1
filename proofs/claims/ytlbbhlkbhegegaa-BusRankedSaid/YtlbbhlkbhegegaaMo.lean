/- Plain laws: a response grows with the sums that it settles. -/
import Derived.Test.YtlbbhlkbhegegaaR11
namespace Go.Proofs.Ytlbbhlkbhegegaa
open Go.RowKit

theorem settle_le {F : Int → Int} {n0 y : Int} (hF : ∀ a b, n0 ≤ a → a ≤ b → F a ≤ F b) (hlo : ∀ a, n0 ≤ a → n0 ≤ F a) (hy : y ≤ 1000000) (hfix : F y ≤ y) :
    ∀ (m : Nat) (n : Int), n0 ≤ n → n ≤ y → n ≤ F n → (1000001 - n).toNat < m → ∃ x, settleS F m n = some x ∧ x ≤ y
  | 0, n, _, _, _, hm => by omega
  | m + 1, n, h0, hn, hnF, hm => by
    by_cases he : F n = n
    · exact ⟨n, settle_hit (by omega) he, hn⟩
    · have h1 := hF n y h0 hn
      have h2 : (1000001 - F n).toNat < m := by omega
      obtain ⟨x, hx, hxy⟩ := settle_le hF hlo hy hfix m (F n) (hlo n h0) (by omega) (hF n (F n) h0 hnF) h2
      exact ⟨x, by rw [settle_next (by omega) he]; exact hx, hxy⟩
/-- what the longer of two waits answers -/
theorem longTo_le {l l' : List MFrame} {ab ab' : Nat → Bool} {block block' : Int} {own own' : MFrame}
    (hB : 0 ≤ block) (hS : 0 ≤ own.size)
    (hmono : ∀ (q : Nat) (a b : Int), 0 ≤ a → a ≤ b → waitS l ab block own q a ≤ waitS l ab block own q b)
    (hlo : ∀ (q : Nat) (y : Int), 0 ≤ y → block + q * own.size ≤ waitS l ab block own q y)
    (hlo' : ∀ (q : Nat) (y : Int), 0 ≤ y → block' + q * own'.size ≤ waitS l' ab' block' own' q y) (hB' : 0 ≤ block') (hS' : 0 ≤ own'.size)
    (hle : ∀ (q : Nat) (y : Int), 0 ≤ y → waitS l ab block own q y ≤ waitS l' ab' block' own' q y)
    (hs : own.size ≤ own'.size) (hj : own.jitter ≤ own'.jitter) (he : own'.every ≤ own.every) :
    ∀ (q : Nat) (y : Int), longTo l' ab' block' own' q = some y → ∃ x, longTo l ab block own q = some x ∧ x ≤ y
  | 0, y, h => by rw [longTo] at h; injection h with h; exact ⟨0, rfl, by omega⟩
  | q + 1, y, h => by
    rw [longTo] at h
    rcases h1 : longTo l' ab' block' own' q with _ | m'
    · rw [h1] at h; cases h
    · rw [h1] at h
      obtain ⟨m, hm, hmm⟩ := longTo_le hB hS hmono hlo hlo' hB' hS' hle hs hj he q m' h1
      rcases h2 : settleS (waitS l' ab' block' own' q) 1000002 (block' + q * own'.size) with _ | z'
      · simp only [h2] at h; cases h
      · simp only [h2] at h
        injection h with h
        have hqs : 0 ≤ (q : Int) * own.size := Int.mul_nonneg (by omega) hS
        have hqs' : 0 ≤ (q : Int) * own'.size := Int.mul_nonneg (by omega) hS'
        have hz := settle_fix _ _ h2
        have hz0 : block' + q * own'.size ≤ z' := settle_ge (fun y hy => hlo' q y (by omega)) _ _ (Int.le_refl _) h2
        have hzz := hle q z' (by omega)
        have hlz := hlo q z' (by omega)
        obtain ⟨z, hz1, hz2⟩ := settle_le (F := waitS l ab block own q) (n0 := block + q * own.size) (y := z') (fun a b ha hab => hmono q a b (by omega) hab) (fun a ha => hlo q a (by omega)) hz.2 (by omega) 1000002 (block + q * own.size) (Int.le_refl _) (by omega) (hlo q _ (by omega)) (by omega)
        refine ⟨_, longTo_yes hm hz1, ?_⟩
        have hqe : (q : Int) * own'.every ≤ (q : Int) * own.every := Int.mul_le_mul_of_nonneg_left he (by omega)
        omega
theorem longTo_less {l : List MFrame} {ab : Nat → Bool} {block : Int} {own : MFrame} : ∀ (d q : Nat) (y : Int), longTo l ab block own (q + d) = some y → ∃ x, longTo l ab block own q = some x ∧ x ≤ y
  | 0, q, y, h => ⟨y, h, Int.le_refl _⟩
  | d + 1, q, y, h => by
    rw [← Nat.add_assoc, longTo] at h
    rcases h1 : longTo l ab block own (q + d) with _ | m
    · rw [h1] at h; cases h
    · rw [h1] at h
      obtain ⟨x, hx, hxm⟩ := longTo_less d q m h1
      rcases h2 : settleS (waitS l ab block own ((q + d : Nat) : Int)) 1000002 (block + ((q + d : Nat) : Int) * own.size) with _ | z
      · simp only [h2] at h; cases h
      · simp only [h2] at h
        injection h with h
        exact ⟨x, hx, by omega⟩
/-- two ways to ask for a response, the second the heavier -/
structure Heavier (l l' : List MFrame) (ab ab' : Nat → Bool) (block block' : Int) (own own' : MFrame) : Prop where
  ok : ∀ (k : Nat) (f : MFrame), l[k]? = some f → FOk f
  ok' : ∀ (k : Nat) (f : MFrame), l'[k]? = some f → FOk f
  fo : FOk own
  fo' : FOk own'
  len : l.length ≤ 40
  len' : l'.length ≤ 40
  hb : 0 ≤ block
  hb' : 0 ≤ block'
  busy : ∀ t, 1 ≤ t → busyS l ab block own t ≤ busyS l' ab' block' own' t
  wait : ∀ (q : Nat) (t : Int), 0 ≤ t → waitS l ab block own q t ≤ waitS l' ab' block' own' q t
  hs : own.size ≤ own'.size
  hj : own.jitter ≤ own'.jitter
  he : own'.every ≤ own.every
def respW (l : List MFrame) (ab : Nat → Bool) (block : Int) (own : MFrame) : Option Int :=
  match settleS (busyS l ab block own) 1000002 1 with
  | none => none
  | some busy => longTo l ab block own ((busy + own.jitter + own.every - 1) / own.every).toNat
theorem wait_low {l : List MFrame} {ab : Nat → Bool} {block : Int} {own : MFrame} (hF : ∀ (k : Nat) (f : MFrame), l[k]? = some f → FOk f) (q : Nat) (y : Int) (hy : 0 ≤ y) : block + q * own.size ≤ waitS l ab block own q y := by
  have := loadTo_nn (ab := ab) hF hy l.length (Nat.le_refl _)
  unfold waitS
  omega
theorem respW_le {l l' : List MFrame} {ab ab' : Nat → Bool} {block block' : Int} {own own' : MFrame} (h : Heavier l l' ab ab' block block' own own') {y : Int} (hy : respW l' ab' block' own' = some y) : ∃ x, respW l ab block own = some x ∧ x ≤ y := by
  unfold respW at hy ⊢
  rcases h1 : settleS (busyS l' ab' block' own') 1000002 1 with _ | b'
  · simp only [h1] at hy; cases hy
  · simp only [h1] at hy
    have hm := fun a b (h1 : a ≤ b) => busyS_mono (ab := ab) (block := block) h.ok h.fo (a := a) (b := b) h1
    have hst := busy_start (ab := ab) (block := block) h.ok h.fo h.len h.hb
    have hst' := busy_start (ab := ab') (block := block') h.ok' h.fo' h.len' h.hb'
    have hm' := fun a b (h1 : a ≤ b) => busyS_mono (ab := ab') (block := block') h.ok' h.fo' (a := a) (b := b) h1
    have hf := settle_fix _ _ h1
    have hb1 : 1 ≤ b' := settle_ge (F := busyS l' ab' block' own') (n0 := 1) (fun y hy => Int.le_trans hst' (hm' _ _ hy)) _ _ (Int.le_refl _) h1
    have hle := h.busy b' hb1
    obtain ⟨b, hb, hbb⟩ := settle_le (F := busyS l ab block own) (n0 := 1) (y := b') (fun a c _ hac => hm a c hac) (fun a ha => Int.le_trans hst (hm _ _ ha)) hf.2 (by omega) 1000002 1 (Int.le_refl _) hb1 hst (by omega)
    simp only [hb]
    have hqq : ((b + own.jitter + own.every - 1) / own.every).toNat ≤ ((b' + own'.jitter + own'.every - 1) / own'.every).toNat := by
      have e1 := h.fo.2.1
      have e2 := h.fo'.2.1
      have e3 := h.he
      have e4 := h.hj
      have e5 := h.fo.2.2.2.1
      have b0 : 1 ≤ b := settle_ge (F := busyS l ab block own) (n0 := 1) (fun y hy => Int.le_trans hst (hm _ _ hy)) _ _ (Int.le_refl _) hb
      have h2 : (b + own.jitter + own.every - 1) / own.every ≤ (b' + own'.jitter + own'.every - 1) / own'.every := by
        have x1 : b + own.jitter + own.every - 1 = (b + own.jitter - 1) + 1 * own.every := by omega
        have x2 : b' + own'.jitter + own'.every - 1 = (b' + own'.jitter - 1) + 1 * own'.every := by omega
        rw [x1, x2, Int.add_mul_ediv_right _ _ (by omega), Int.add_mul_ediv_right _ _ (by omega)]
        have x3 : (b + own.jitter - 1) / own.every ≤ (b' + own'.jitter - 1) / own.every := Int.ediv_le_ediv (by omega) (by omega)
        have x4 : (b' + own'.jitter - 1) / own.every ≤ (b' + own'.jitter - 1) / own'.every := by
          refine (Int.le_ediv_iff_mul_le (by omega)).2 ?_
          have x5 := Int.ediv_mul_le (b' + own'.jitter - 1) (b := own.every) (by omega)
          have x6 : (b' + own'.jitter - 1) / own.every * own'.every ≤ (b' + own'.jitter - 1) / own.every * own.every := Int.mul_le_mul_of_nonneg_left e3 (Int.ediv_nonneg (by omega) (by omega))
          omega
        omega
      omega
    obtain ⟨d, hd⟩ : ∃ d, ((b' + own'.jitter + own'.every - 1) / own'.every).toNat = ((b + own.jitter + own.every - 1) / own.every).toNat + d := ⟨_, (Nat.add_sub_cancel' hqq).symm⟩
    rw [hd] at hy
    obtain ⟨z, hz, hzy⟩ := longTo_less d _ y hy
    obtain ⟨x, hx, hxz⟩ := longTo_le h.hb (by have := h.fo.1; omega) (fun q a b _ hab => waitS_mono h.ok hab) (fun q y hy => wait_low h.ok q y hy) (fun q y hy => wait_low h.ok' q y hy) h.hb' (by have := h.fo'.1; omega) h.wait h.hs h.hj h.he _ z hz
    exact ⟨x, hx, by omega⟩
theorem respS_W {l : List MFrame} {ab : Nat → Bool} {i : Nat} {own : MFrame} (hi : l[i]? = some own) : respS l ab i = respW l ab (blockTo l ab i l.length) own := by
  have e : l.getD i ⟨0, 0, 0, 0, 0⟩ = own := by rw [List.getD_eq_getElem?_getD, hi]; rfl
  simp only [respS, e, respW]
  rfl
end Go.Proofs.Ytlbbhlkbhegegaa
