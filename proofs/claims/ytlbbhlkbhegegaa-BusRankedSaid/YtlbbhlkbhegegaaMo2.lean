/- Plain laws: with a longer size, a greater jitter or a shorter period no response becomes shorter. -/
import Derived.Test.YtlbbhlkbhegegaaMo
namespace Go.Proofs.Ytlbbhlkbhegegaa
open Go.RowKit

theorem div_le_div {a b e e' : Int} (hab : a ≤ b) (hb : 0 ≤ b) (he' : 1 ≤ e') (he : e' ≤ e) : a / e ≤ b / e' := by
  have x3 : a / e ≤ b / e := Int.ediv_le_ediv (by omega) hab
  have x4 : b / e ≤ b / e' := by
    refine (Int.le_ediv_iff_mul_le (by omega)).2 ?_
    have x5 := Int.ediv_mul_le b (b := e) (by omega)
    have x6 : b / e * e' ≤ b / e * e := Int.mul_le_mul_of_nonneg_left he (Int.ediv_nonneg hb (by omega))
    omega
  omega
def LeF (f g : MFrame) : Prop := f.size ≤ g.size ∧ f.jitter ≤ g.jitter ∧ g.every ≤ f.every ∧ f.rank = g.rank
theorem manyUp_le {f g : MFrame} (hf : FOk f) (hg : FOk g) (h : LeF f g) {t : Int} (ht : 1 ≤ t) : manyUp t f ≤ manyUp t g := by
  unfold manyUp
  have e1 := hf.2.1
  have e2 := hg.2.1
  have e3 := hf.2.2.2.1
  obtain ⟨_, h2, h3, _⟩ := h
  have x1 : t + f.jitter + f.every - 1 = (t + f.jitter - 1) + 1 * f.every := by omega
  have x2 : t + g.jitter + g.every - 1 = (t + g.jitter - 1) + 1 * g.every := by omega
  rw [x1, x2, Int.add_mul_ediv_right _ _ (by omega), Int.add_mul_ediv_right _ _ (by omega)]
  have := div_le_div (a := t + f.jitter - 1) (b := t + g.jitter - 1) (e := f.every) (e' := g.every) (by omega) (by omega) (by omega) h3
  omega
theorem manyAt_le {f g : MFrame} (hf : FOk f) (hg : FOk g) (h : LeF f g) {t : Int} (ht : 0 ≤ t) : manyAt t f ≤ manyAt t g := by
  unfold manyAt
  have e2 := hg.2.1
  have e3 := hf.2.2.2.1
  obtain ⟨_, h2, h3, _⟩ := h
  have := div_le_div (a := t + f.jitter) (b := t + g.jitter) (e := f.every) (e' := g.every) (by omega) (by omega) (by omega) h3
  omega
theorem many_nn {F : MFrame → Int} {f g : MFrame} (_ : FOk f) (hg : FOk g) (h : LeF f g) (h0 : 0 ≤ F f) (hF : F f ≤ F g) : F f * f.size ≤ F g * g.size := by
  have h1 : F f * f.size ≤ F f * g.size := Int.mul_le_mul_of_nonneg_left h.1 h0
  have h2 : F f * g.size ≤ F g * g.size := Int.mul_le_mul_of_nonneg_right hF (by have := hg.1; omega)
  omega
theorem manyUp_nn {f : MFrame} (hf : FOk f) {t : Int} (ht : 0 ≤ t) : 0 ≤ manyUp t f := by
  unfold manyUp
  exact Int.ediv_nonneg (by have := hf.2.1; have := hf.2.2.2.1; omega) (by have := hf.2.1; omega)
theorem manyAt_nn {f : MFrame} (hf : FOk f) {t : Int} (ht : 0 ≤ t) : 0 ≤ manyAt t f := by
  unfold manyAt
  have : 0 ≤ (t + f.jitter) / f.every := Int.ediv_nonneg (by have := hf.2.2.2.1; omega) (by have := hf.2.1; omega)
  omega
structure LeL (l l' : List MFrame) : Prop where
  len : l.length = l'.length
  le : ∀ (k : Nat) (f g : MFrame), l[k]? = some f → l'[k]? = some g → LeF f g
theorem LeL.both {l l' : List MFrame} (h : LeL l l') {k : Nat} (hk : k < l.length) : ∃ f g, l[k]? = some f ∧ l'[k]? = some g ∧ LeF f g := by
  have h1 : l[k]? = some l[k] := List.getElem?_eq_getElem hk
  have h2 : l'[k]? = some (l'[k]'(by rw [← h.len]; exact hk)) := List.getElem?_eq_getElem (by rw [← h.len]; exact hk)
  exact ⟨_, _, h1, h2, h.le k _ _ h1 h2⟩
theorem higher_same {l l' : List MFrame} (h : LeL l l') (r : Int) {k : Nat} (hk : k < l.length) : higherB l r k = higherB l' r k := by
  obtain ⟨f, g, hf, hg, hle⟩ := h.both hk
  rw [higherB_of hf, higherB_of hg, hle.2.2.2]
theorem load_le2 {l l' : List MFrame} {ab ab' : Nat → Bool} {F G : MFrame → Int} (hlen : l.length = l'.length) (h : ∀ (k : Nat) (f g : MFrame), l[k]? = some f → l'[k]? = some g → F f * f.size ≤ G g * g.size ∧ 0 ≤ G g * g.size ∧ (ab k = true → ab' k = true)) : ∀ k, k ≤ l.length → loadTo l ab F k ≤ loadTo l' ab' G k
  | 0, _ => Int.le_refl _
  | k + 1, hk => by
    have h1 := load_le2 hlen h k (by omega)
    have hf : l[k]? = some l[k] := List.getElem?_eq_getElem (by omega)
    have hg : l'[k]? = some (l'[k]'(by omega)) := List.getElem?_eq_getElem (by omega)
    obtain ⟨h2, h3, h4⟩ := h k _ _ hf hg
    rw [loadTo_succ hf, loadTo_succ hg]
    by_cases ha : ab k = true
    · rw [if_pos ha, if_pos (h4 ha)]; omega
    · rw [if_neg ha]; split <;> omega
theorem block_le {l l' : List MFrame} {ab ab' : Nat → Bool} {i : Nat} (h : LeL l l') (ha : ∀ k, k < l.length → ab k = ab' k) : ∀ k, k ≤ l.length → blockTo l ab i k ≤ blockTo l' ab' i k
  | 0, _ => Int.le_refl _
  | k + 1, hk => by
    have h1 := block_le (i := i) h ha k (by omega)
    obtain ⟨f, g, hf, hg, hle⟩ := h.both (show k < l.length by omega)
    rw [blockTo_succ hf, blockTo_succ hg, ha k (by omega)]
    have := hle.1
    split <;> omega
theorem resp_longer {l l' : List MFrame} (h : LeL l l') (hv : framesB l = true) (hv' : framesB l' = true) {i : Nat} (hi : i < l.length) {y : Int} (hy : respI l' i = some y) : ∃ x, respI l i = some x ∧ x ≤ y := by
  obtain ⟨f, g, hf, hg, hle⟩ := h.both hi
  have hF := framesF hv
  have hF' := framesF hv'
  rw [respI_of hg, ← hle.2.2.2, respS_W hg] at hy
  rw [respI_of hf, respS_W hf]
  have hlen := h.len
  have hab : ∀ k, k < l.length → higherB l f.rank k = higherB l' f.rank k := fun k hk => higher_same h _ hk
  have hbl := block_le (i := i) h hab l.length (Nat.le_refl _)
  have hbd := blockTo_bd (ab := higherB l f.rank) (i := i) hF l.length (Nat.le_refl _)
  have hbl' : blockTo l (higherB l f.rank) i l.length ≤ blockTo l' (higherB l' f.rank) i l'.length := by rw [← hlen]; exact hbl
  refine respW_le ⟨hF, hF', hF i f hf, hF' i g hg, (framesB_parts hv).1, (framesB_parts hv').1, hbd.1, by omega, fun t ht => ?_, fun q t ht => ?_, hle.1, hle.2.1, hle.2.2.1⟩ hy
  · unfold busyS
    have h1 := many_nn (F := manyUp t) (hF i f hf) (hF' i g hg) hle (manyUp_nn (hF i f hf) (by omega)) (manyUp_le (hF i f hf) (hF' i g hg) hle ht)
    have h2 := load_le2 (ab := higherB l f.rank) (ab' := higherB l' f.rank) (F := manyUp t) (G := manyUp t) hlen (fun k a b ha hb => by
      have hab' := h.le k a b ha hb
      have hk : k < l.length := by
        rcases Nat.lt_or_ge k l.length with h1 | h1
        · exact h1
        · rw [List.getElem?_eq_none h1] at ha; cases ha
      exact ⟨many_nn (hF k a ha) (hF' k b hb) hab' (manyUp_nn (hF k a ha) (by omega)) (manyUp_le (hF k a ha) (hF' k b hb) hab' ht), Int.mul_nonneg (manyUp_nn (hF' k b hb) (by omega)) (by have := (hF' k b hb).1; omega), fun h1 => by rw [← hab k hk]; exact h1⟩) l.length (Nat.le_refl _)
    rw [hlen] at h2 hbl'
    rw [hlen]
    omega
  · unfold waitS
    have h2 := load_le2 (ab := higherB l f.rank) (ab' := higherB l' f.rank) (F := manyAt t) (G := manyAt t) hlen (fun k a b ha hb => by
      have hab' := h.le k a b ha hb
      have hk : k < l.length := by
        rcases Nat.lt_or_ge k l.length with h1 | h1
        · exact h1
        · rw [List.getElem?_eq_none h1] at ha; cases ha
      exact ⟨many_nn (hF k a ha) (hF' k b hb) hab' (manyAt_nn (hF k a ha) (by omega)) (manyAt_le (hF k a ha) (hF' k b hb) hab' ht), Int.mul_nonneg (manyAt_nn (hF' k b hb) (by omega)) (by have := (hF' k b hb).1; omega), fun h1 => by rw [← hab k hk]; exact h1⟩) l.length (Nat.le_refl _)
    have h3 : (q : Int) * f.size ≤ (q : Int) * g.size := Int.mul_le_mul_of_nonneg_left hle.1 (by omega)
    rw [hlen] at h2 hbl'
    rw [hlen]
    omega
end Go.Proofs.Ytlbbhlkbhegegaa
