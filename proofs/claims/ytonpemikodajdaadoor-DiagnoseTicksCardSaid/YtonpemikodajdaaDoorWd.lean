/- Rows of codes: many cells are stored; a row is cut short; the plain part of a deletion. -/
import Derived.Test.YtonpemikodajdaaDoorWb
namespace Go.Proofs.YtonpemikodajdaaDoor
open Go.RowKit

/-- a list behind stores from o on -/
def putMany (xs : List Value) : Nat → List Value → List Value
  | _, [] => xs
  | o, v :: r => putMany (xs.set o v) (o + 1) r
theorem putMany_eq : ∀ (vs xs : List Value) (o : Nat), o + vs.length ≤ xs.length → putMany xs o vs = xs.take o ++ vs ++ xs.drop (o + vs.length)
  | [], xs, o, _ => by simp [putMany]
  | v :: r, xs, o, h => by
    rw [List.length_cons] at h
    unfold putMany
    rw [putMany_eq r _ _ (by simp; omega)]
    rw [List.take_set, List.drop_set_of_lt (by omega), List.take_succ_eq_append_getElem (show o < xs.length by omega)]
    rw [List.set_append_right _ _ (by rw [List.length_take]; omega), show o - (xs.take o).length = 0 by rw [List.length_take]; omega]
    simp [show o + 1 + r.length = o + (r.length + 1) by omega]
theorem own_setCells {base e size g n cap : Nat} : ∀ (vs : List Value) (o : Nat) (w : World) (xs : List Value), w.ownsRow base e size (.slice (some ⟨g, 0, none⟩) n cap) n xs →
    (w.setCells g o vs).ownsRow base e size (.slice (some ⟨g, 0, none⟩) n cap) n (putMany xs o vs) ∧ w.grownBy (w.setCells g o vs) (some g)
  | [], _, w, _, h => ⟨h, ⟨rfl, rfl, rfl, Nat.le_refl _, fun _ _ _ => rfl⟩⟩
  | v :: r, o, w, xs, h => by
    obtain ⟨h1, g1⟩ := World.ownsRow.stored h o v
    obtain ⟨h2, g2⟩ := own_setCells r (o + 1) _ _ h1
    exact ⟨h2, ⟨g2.os.trans g1.os, g2.tape.trans g1.tape, g2.output.trans g1.output, Nat.le_trans g1.size g2.size, fun k hk hne => (g2.block k (Nat.lt_of_lt_of_le hk g1.size) hne).trans (g1.block k hk hne)⟩⟩
/-- a row cut short -/
theorem own_short {w : World} {base e size g n cap m : Nat} {xs : List Value} (h : w.ownsRow base e size (.slice (some ⟨g, 0, none⟩) n cap) n xs) (hm : m ≤ n) : w.ownsRow base e size (.slice (some ⟨g, 0, none⟩) m cap) m (xs.take (m * size)) := by
  have hms : m * size ≤ n * size := Nat.mul_le_mul_right _ hm
  obtain ⟨hl, h2⟩ := h
  rcases h2 with ⟨h', _⟩ | ⟨g', cap', cur, h', hb, hg, hnc, hcm, hcs, htake⟩
  · simp at h'
  · simp only [Value.slice.injEq, Option.some.injEq, Addr.mk.injEq, and_true, true_and] at h'
    obtain ⟨rfl, rfl⟩ := h'
    exact ⟨by rw [List.length_take, hl]; omega, .inr ⟨g, cap, cur, rfl, hb, hg, by omega, hcm, hcs, by rw [← htake, List.take_take, Nat.min_eq_left hms]⟩⟩
/-- the cells behind a deletion -/
theorem del_cells (K : List (MCode × Value)) (ix : Nat) (hix : ix < K.length) (zs : List Value) (hz : zs.length = 6) :
    (putMany (putMany (K.flatMap cells6) (ix * 6) ((K.drop (ix + 1)).flatMap cells6)) ((K.length - 1) * 6) zs).take ((K.length - 1) * 6) = (K.eraseIdx ix).flatMap cells6 := by
  have hn1 : ((K.drop (ix + 1)).flatMap cells6).length = (K.length - (ix + 1)) * 6 := by rw [cells6_len, List.length_drop]
  have hl := cells6_len K
  rw [putMany_eq _ (K.flatMap cells6) _ (by rw [hn1, hl]; omega)]
  have e1 : (K.flatMap cells6).take (ix * 6) = (K.take ix).flatMap cells6 := by
    conv => lhs; rw [← List.take_append_drop ix K, List.flatMap_append]
    exact List.take_left' (by rw [cells6_len, List.length_take]; omega)
  have hlen : ((K.flatMap cells6).take (ix * 6) ++ (K.drop (ix + 1)).flatMap cells6 ++ (K.flatMap cells6).drop (ix * 6 + ((K.drop (ix + 1)).flatMap cells6).length)).length = K.length * 6 := by
    rw [List.length_append, List.length_append, List.length_take, List.length_drop, hn1, hl]; omega
  rw [putMany_eq _ _ _ (by rw [hlen, hz]; omega), List.append_assoc, List.take_append_of_le_length (by rw [List.length_take, hlen]; omega), List.take_take, Nat.min_self]
  rw [List.take_left' (by rw [List.length_append, List.length_take, hn1, hl]; omega), e1, List.eraseIdx_eq_take_drop_succ, List.flatMap_append]
end Go.Proofs.YtonpemikodajdaaDoor
