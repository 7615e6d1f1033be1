/- Plain: the leaf to which a suspect leads is its group. -/
import Derived.Test.YtonpemikodajdaaDoorTg
namespace Go.Proofs.YtonpemikodajdaaDoor
open Go.RowKit

section
variable {c : MCase} {F : List MFork} {S : NN}
theorem walk_alike (hc : CaseOk c) (hT : TreeOk c F S) (hS : ∀ i, S i < 2 ^ c.weights.length) {x y : Nat} (hxy : ralikeB c x y (-1) = true) {i j : Nat} {L : List Int} (h : WalkR c F x i L j) : i < F.length → (S i).testBit x = true → (S i).testBit y = true → (S j).testBit y = true := by
  induction h with
  | leaf i h => exact fun _ _ hy => hy
  | step i L j h0 _ ih =>
    intro hi hx hy
    obtain ⟨t, o, p, hp⟩ := step_ok hc hT hS hi hx (by omega)
    have hs12 := pow12 hc.n2 (hS i)
    refine ih hp.lt hp.bit ?_
    have h1 := (ralikeB_iff.1 hxy t p hp.tl hp.tp).resolve_left (by omega)
    rw [hp.set, partS_bit _ _ _ _ hs12, hy, ← h1, hp.ov]
    simp
theorem leaf_bits (hc : CaseOk c) (hT : TreeOk c F S) (hS : ∀ i, S i < 2 ^ c.weights.length) {x : Nat} (hx : x < c.weights.length) (y : Nat) : (S (leafT c F x)).testBit y = true ↔ y < c.weights.length ∧ ralikeB c x y (-1) = true := by
  have hw := walk_all hc hT hS hx
  have hn1 := hT.n1
  constructor
  · intro hy
    exact ⟨bit_lt (hS _) hy, (alikeB_set hc (hS _)).1 (hT.leaf _ hw.l hw.e).2 x y hw.b hy⟩
  · rintro ⟨hy, hxy⟩
    exact walk_alike hc hT hS hxy hw.w (by omega) (by rw [hT.root]; exact full_bit hx) (by rw [hT.root]; exact full_bit hy)
theorem leaf_group (hc : CaseOk c) (hT : TreeOk c F S) (hS : ∀ i, S i < 2 ^ c.weights.length) {x k : Nat} (hk : k < (groupsS c (-1) c.weights.length).length) (hx : ((groupsS c (-1) c.weights.length).getD k 0).testBit x = true) : (groupsS c (-1) c.weights.length).getD k 0 = S (leafT c F x) := by
  have hg := groups_ok hc (-1) (Nat.le_refl c.weights.length)
  have hlt := hg.lt k hk
  have hxn := bit_lt hlt hx
  refine bits_eq (pow12 hc.n2 hlt) (pow12 hc.n2 (hS _)) fun y _ => ?_
  rw [Bool.eq_iff_iff, leaf_bits hc hT hS hxn]
  constructor
  · exact fun hy => ⟨bit_lt hlt hy, hg.al k hk x y hx hy⟩
  · rintro ⟨hy, hxy⟩
    obtain ⟨k', hk', hb⟩ := hg.cov y hy
    by_cases e : k = k'
    · rw [e]; exact hb
    · have := hg.un k k' hk hk' e x y hx hb
      rw [hxy] at this
      cases this
/-- the set at the leaf -/
theorem leaf_set (hc : CaseOk c) (hT : TreeOk c F S) (hS : ∀ i, S i < 2 ^ c.weights.length) {x k : Nat} (hk : k < (groupsS c (-1) c.weights.length).length) (hx : ((groupsS c (-1) c.weights.length).getD k 0).testBit x = true) : bitsI ((groupsS c (-1) c.weights.length).getD k 0) = (fk F (leafT c F x)).set := by
  have hg := groups_ok hc (-1) (Nat.le_refl c.weights.length)
  have hxn := bit_lt (hg.lt k hk) hx
  rw [leaf_group hc hT hS hk hx, hT.set _ (walk_all hc hT hS hxn).l]
end
end Go.Proofs.YtonpemikodajdaaDoor
