/- Small laws for the walks of Delays. -/
import Derived.Test.YtlbbhlkbhegegaaDelM
import Derived.Test.YtlbbhlkbhegegaaOrdF
namespace Go.Proofs.Ytlbbhlkbhegegaa
open Go.RowKit

theorem step_upd {F G : Nat → Int} {m : Nat} {v : Int} (h : F m = v) (j : Nat) : (if j = m then v else if j < m then F j else G j) = if j < m + 1 then F j else G j := by
  by_cases h1 : j = m
  · subst h1; rw [if_pos rfl, if_pos (by omega), h]
  · rw [if_neg h1]
    by_cases h2 : j < m
    · rw [if_pos h2, if_pos (by omega)]
    · rw [if_neg h2, if_neg (by omega)]
theorem step_same {F G : Nat → Int} {m : Nat} (h : F m = G m) (j : Nat) : (if j < m then F j else G j) = if j < m + 1 then F j else G j := by
  by_cases h1 : j = m
  · subst h1; rw [if_neg (by omega), if_pos (by omega), h]
  · by_cases h2 : j < m
    · rw [if_pos h2, if_pos (by omega)]
    · rw [if_neg h2, if_neg (by omega)]
theorem all_upd {F G : Nat → Int} {m : Nat} (j : Nat) (hj : j < m) : (if j < m then F j else G j) = F j := if_pos hj
theorem hasI_of_idx {l : List Int} {x : Int} {q : Nat} (h : idxI l x = (q : Int)) : hasI l x = true := by
  rw [← idxI_has, h]; simp
theorem hasI_of_miss {l : List Int} {x : Int} (h : idxI l x = -1) : hasI l x = false := by
  rw [← idxI_has, h]; rfl
theorem burst_ok {n : MNet} {B : Nat → Int} {g wt : Int} (hv : netB n = true) (hB : ∀ j, j < n.flows.length → 0 ≤ B j ∧ B j ≤ 1000000000) (h0 : 0 ≤ wt) (ho : ∀ j, j < n.flows.length → overB n (burstI n B g wt) g j = false) :
    ∀ j, j < n.flows.length → 0 ≤ burstI n B g wt j ∧ burstI n B g wt j ≤ 1000000000 := by
  intro j hj
  have h1 := hB j hj
  have h2 := ho j hj
  by_cases hm : moreI n g j = true
  · have hb : burstI n B g wt j = B j + (flowAt n j).rate * wt := by unfold burstI; rw [if_pos hm]
    rw [hb]
    have ht : thru n g j = true := by
      unfold moreI at hm
      rw [Bool.and_eq_true] at hm
      unfold thru
      rw [← idxI_has]
      exact hm.1
    unfold overB at h2
    rw [ht, Bool.true_and, hb] at h2
    have h3 := of_decide_eq_false h2
    have h4 := flow_rate hv (List.getElem?_eq_getElem hj)
    have h5 : 0 ≤ (flowAt n j).rate * wt := Int.mul_nonneg (by rw [flowAt_of (List.getElem?_eq_getElem hj)]; exact h4.2.1) h0
    omega
  · rw [show burstI n B g wt j = B j by unfold burstI; rw [if_neg hm]]; exact h1
theorem delay_ok {n : MNet} {D : Nat → Int} {k t : Nat} {wt : Int} {x : MGate} (hv : netB n = true) (hg : n.gates[k]? = some x) (hw : 0 ≤ wt ∧ wt ≤ 40000000000) (hD : ∀ j, 0 ≤ D j ∧ D j ≤ 50000000000 * (t : Int)) :
    ∀ j, 0 ≤ delayD n D k wt j ∧ delayD n D k wt j ≤ 50000000000 * ((t + 1 : Nat) : Int) := by
  intro j
  have h1 := hD j
  have h2 := (netB_gate hv hg).2
  unfold delayD
  rw [gateAt_of hg]
  split <;> omega
theorem cell_far {w : World} {b b' o o' : Nat} {u : Value} (h : b ≠ b') : (w.setCell ⟨b', o', none⟩ u).cell? ⟨b, o, none⟩ = w.cell? ⟨b, o, none⟩ :=
  World.cell?_of_block (w := w) (Below.heap_setCell w ⟨b', o', none⟩ u b h)
theorem del_none {n : MNet} {res : List Int → Option ((Nat → Int) × (Nat → Int))} {w w' : World} {l : List Int} (hb : Below w.heap.size w w') (hc : checkS n = 0) (hl : orderS n = some l) (hr : res l = none) :
    DelPost n res w (.returned (.tuple #[.slice none 0 0, .slice none 0 0, .int .i64 41])) w' := ⟨hb, .inr ⟨hc, l, hl, .inl ⟨hr, rfl⟩⟩⟩
theorem del_some {n : MNet} {res : List Int → Option ((Nat → Int) × (Nat → Int))} {w w' : World} {l : List Int} {W D : Nat → Int} {gw gd : Nat} (hb : Below w.heap.size w w') (hc : checkS n = 0) (hl : orderS n = some l) (hr : res l = some (W, D))
    (h1 : w.heap.size ≤ gw) (h2 : w.heap.size ≤ gd) (h3 : OwnF w' gw 3 n.gates.length (fun j => .int .i64 (W j))) (h4 : OwnF w' gd 3 n.flows.length (fun j => .int .i64 (D j))) :
    DelPost n res w (.returned (.tuple #[.slice (some ⟨gw, 0, none⟩) n.gates.length n.gates.length, .slice (some ⟨gd, 0, none⟩) n.flows.length n.flows.length, .int .i64 0])) w' :=
  ⟨hb, .inr ⟨hc, l, hl, .inr ⟨W, D, gw, gd, hr, rfl, h1, h2, h3, h4⟩⟩⟩
end Go.Proofs.Ytlbbhlkbhegegaa
