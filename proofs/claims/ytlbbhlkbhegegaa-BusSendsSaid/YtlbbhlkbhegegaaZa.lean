/- Plain: what Delays answers, told by the waits alone: the bursts and the delays along a path. -/
import Derived.Test.YtlbbhlkbhegegaaDelEq
import Derived.Test.YtlbbhlkbhegegaaOrdF
namespace Go.Proofs.Ytlbbhlkbhegegaa
open Go.RowKit

/-- the gate at a step of a flow's path -/
def gAt (n : MNet) (i h : Nat) : Nat := ((flowAt n i).path.getD h 0).toNat
def bT (n : MNet) (W : Nat → Int) (i : Nat) : Nat → Int
  | 0 => (flowAt n i).burst
  | h + 1 => bT n W i h + (flowAt n i).rate * W (gAt n i h)
def hiT (n : MNet) (W : Nat → Int) (i : Nat) : Nat → Int
  | 0 => 0
  | h + 1 => hiT n W i h + ((gateAt n (gAt n i h)).delay + W (gAt n i h))
def loT (n : MNet) (i : Nat) : Nat → Int
  | 0 => 0
  | h + 1 => loT n i h + (gateAt n (gAt n i h)).delay
def hopI (n : MNet) (g : Int) (i : Nat) : Nat := (idxI (flowAt n i).path g).toNat
theorem bT_congr {n : MNet} {W W' : Nat → Int} {i : Nat} : ∀ h, (∀ j, j < h → W (gAt n i j) = W' (gAt n i j)) → bT n W i h = bT n W' i h
  | 0, _ => rfl
  | h + 1, hw => by
    rw [bT, bT, bT_congr h fun j hj => hw j (by omega), hw h (by omega)]
theorem hiT_congr {n : MNet} {W W' : Nat → Int} {i : Nat} : ∀ h, (∀ j, j < h → W (gAt n i j) = W' (gAt n i j)) → hiT n W i h = hiT n W' i h
  | 0, _ => rfl
  | h + 1, hw => by
    rw [hiT, hiT, hiT_congr h fun j hj => hw j (by omega), hw h (by omega)]
theorem bT_pos {n : MNet} (hv : netB n = true) {W : Nat → Int} (hW : ∀ j, 0 ≤ W j) {i : Nat} (hi : i < n.flows.length) : ∀ h, 1 ≤ bT n W i h
  | 0 => (flow_rate hv (flow_some hi)).1.1
  | h + 1 => by
    have h1 := bT_pos hv hW hi h
    have h2 := Int.mul_nonneg (flow_rate hv (flow_some hi)).2.1 (hW (gAt n i h))
    rw [bT]; omega
theorem gAt_ok {n : MNet} (hv : netB n = true) {i : Nat} (hi : i < n.flows.length) {h : Nat} (hh : h < (flowAt n i).path.length) : gAt n i h < n.gates.length ∧ (flowAt n i).path.getD h 0 = (gAt n i h : Int) := by
  obtain ⟨v, hv1, hvG⟩ := hop_range (netB_flow hv (flow_some hi)).2.2 hh
  unfold gAt
  omega
theorem gAt_inj {n : MNet} (hv : netB n = true) {i : Nat} (hi : i < n.flows.length) {h h' : Nat} (hh : h < (flowAt n i).path.length) (hh' : h' < (flowAt n i).path.length) (e : gAt n i h = gAt n i h') : h = h' := by
  have h1 := (gAt_ok hv hi hh).2
  have h2 := (gAt_ok hv hi hh').2
  rcases Nat.lt_trichotomy h h' with hl | hl | hl
  · exact absurd (by rw [h1, h2, e]) (hop_distinct (netB_flow hv (flow_some hi)).2.2 hl hh')
  · exact hl
  · exact absurd (by rw [h1, h2, e]) (hop_distinct (netB_flow hv (flow_some hi)).2.2 hl hh)
theorem hopI_at {n : MNet} (hv : netB n = true) {i : Nat} (hi : i < n.flows.length) {h : Nat} (hh : h < (flowAt n i).path.length) : thru n (gAt n i h : Int) i = true ∧ hopI n (gAt n i h : Int) i = h := by
  have h1 := (gAt_ok hv hi hh).2
  have ht : thru n (gAt n i h : Int) i = true := hasI_hit hh h1
  refine ⟨ht, ?_⟩
  obtain ⟨q, h2, h3, h4⟩ := thru_at ht
  unfold hopI
  rw [h2, Int.toNat_natCast]
  refine gAt_inj hv hi h3 hh ?_
  unfold gAt at h4 ⊢
  rw [h4]; omega
theorem thru_hop {n : MNet} {g : Nat} {i : Nat} (h : thru n (g : Int) i = true) : hopI n (g : Int) i < (flowAt n i).path.length ∧ gAt n i (hopI n (g : Int) i) = g := by
  obtain ⟨q, h2, h3, h4⟩ := thru_at h
  unfold hopI gAt
  rw [h2, Int.toNat_natCast, h4]
  exact ⟨h3, by omega⟩
/-- what holds ahead of the gates r, behind the gates p -/
structure DelI (n : MNet) (p : List Int) (B W D : Nat → Int) : Prop where
  pos : ∀ j, 0 ≤ W j
  new : ∀ k : Nat, (k : Int) ∉ p → W k = 0
  flow : ∀ i, i < n.flows.length → ∃ m, m ≤ (flowAt n i).path.length ∧ (∀ h, h < (flowAt n i).path.length → (h < m ↔ (gAt n i h : Int) ∈ p)) ∧ B i = bT n W i (min m ((flowAt n i).path.length - 1)) ∧ D i = hiT n W i m
  sum : ∀ k : Nat, (k : Int) ∈ p → sumTo n (fun i => bT n W i (hopI n k i)) k n.flows.length ≤ (gateAt n k).rate * (W k + 1)
theorem up_mul {s r : Int} (hr : 1 ≤ r) : s ≤ r * ((s + r - 1) / r - 1 + 1) := by
  have h1 := Int.emod_lt_of_pos (s + r - 1) (show 0 < r by omega)
  have h2 := Int.mul_ediv_add_emod (s + r - 1) r
  rw [show (s + r - 1) / r - 1 + 1 = (s + r - 1) / r by omega]
  omega
theorem sum_zero {n : MNet} {B : Nat → Int} {g : Int} : ∀ k, (∀ i, i < k → thru n g i = true → 1 ≤ B i) → 0 ≤ sumTo n B g k ∧ (sumTo n B g k = 0 → ∀ i, i < k → thru n g i = false)
  | 0, _ => ⟨Int.le_refl _, fun _ i hi => by omega⟩
  | k + 1, h => by
    have ih := sum_zero (B := B) (g := g) k fun i hi => h i (by omega)
    rw [sumTo]
    rcases ht : thru n g k
    · rw [if_neg (by simp)]
      refine ⟨by omega, fun e i hi => ?_⟩
      by_cases hk : i = k
      · rw [hk]; exact ht
      · exact ih.2 (by omega) i (by omega)
    · have := h k (by omega) ht
      rw [if_pos rfl]
      exact ⟨by omega, fun e => by omega⟩
theorem sumTo_none {n : MNet} {B : Nat → Int} {g : Int} : ∀ k, (∀ i, i < k → thru n g i = false) → sumTo n B g k = 0
  | 0, _ => rfl
  | k + 1, h => by
    rw [sumTo, sumTo_none k fun i hi => h i (by omega), h k (by omega)]
    rfl
theorem del_fix_from {n : MNet} (hv : netB n = true) {l : List Int} (hl : orderS n = some l) : ∀ (r p : List Int) (B W D W1 D1 : Nat → Int), l = p ++ r → DelI n p B W D → delI n r B W D = some (W1, D1) → ∃ B1, DelI n l B1 W1 D1
  | [], p, B, W, D, W1, D1, e, h, hd => by
    rw [delI] at hd
    injection hd with hd
    injection hd with h1 h2
    subst h1 h2
    rw [e, List.append_nil]
    exact ⟨B, h⟩
  | g :: r, p, B, W, D, W1, D1, e, h, hd => by
    obtain ⟨k, rfl, hk⟩ := (order_split hl e).2
    have hnp : (k : Int) ∉ p := order_nodup hl p k r e
    have e' : l = (p ++ [(k : Int)]) ++ r := by rw [e]; simp
    have hmem : ∀ x : Int, x ∈ p ++ [(k : Int)] ↔ x ∈ p ∨ x = k := fun x => by simp
    -- a flow through g stands just ahead of it
    have hat : ∀ i, i < n.flows.length → ∀ q, q < (flowAt n i).path.length → gAt n i q = k → ∀ m, (∀ h, h < (flowAt n i).path.length → (h < m ↔ (gAt n i h : Int) ∈ p)) → m ≤ (flowAt n i).path.length → m = q := fun i hi q hq hg m hm hml => by
      have h1 : ¬ q < m := fun hh => hnp (by have := (hm q hq).1 hh; rwa [hg] at this)
      have hpq := (gAt_ok hv hi hq).2
      rw [hg] at hpq
      have h2 : ∀ j, j < q → j < m := fun j hj => by
        have := order_pred hl (flow_some hi) q p r hq (by rw [hpq]; exact e) j hj
        rw [(gAt_ok hv hi (show j < (flowAt n i).path.length by omega)).2] at this
        exact (hm j (by omega)).2 this
      by_cases hmq : m < q
      · have := h2 m hmq; omega
      · omega
    have hB : ∀ i, i < n.flows.length → thru n (k : Int) i = true → B i = bT n W i (hopI n k i) := fun i hi ht => by
      obtain ⟨m, hml, hm, hb, _⟩ := h.flow i hi
      have h1 := thru_hop ht
      have := hat i hi _ h1.1 h1.2 m hm hml
      rw [hb, this, Nat.min_eq_left (by omega)]
    have hs : sumTo n B k n.flows.length = sumTo n (fun i => bT n W i (hopI n k i)) k n.flows.length := sumTo_congr _ hB
    have hsz := sum_zero (n := n) (B := B) (g := (k : Int)) n.flows.length fun i hi ht => by rw [hB i hi ht]; exact bT_pos hv h.pos hi _
    have hr := (netB_gate hv (List.getElem?_eq_getElem hk)).1
    rw [← gateAt_of (List.getElem?_eq_getElem hk)] at hr
    by_cases h0 : sumTo n B k n.flows.length = 0
    · rw [delI_zero h0] at hd
      have hno := hsz.2 h0
      refine del_fix_from hv hl r (p ++ [(k : Int)]) B W D W1 D1 e' ⟨h.pos, fun j hj => h.new j fun hh => hj ((hmem _).2 (.inl hh)), fun i hi => ?_, fun j hj => ?_⟩ hd
      · obtain ⟨m, hml, hm, hb, hd⟩ := h.flow i hi
        refine ⟨m, hml, fun q hq => (hm q hq).trans ⟨fun hh => (hmem _).2 (.inl hh), fun hh => ?_⟩, hb, hd⟩
        rcases (hmem _).1 hh with hh | hh
        · exact hh
        · have := (hopI_at hv hi hq).1
          rw [hh, hno i hi] at this
          cases this
      · rcases (hmem _).1 hj with hj | hj
        · exact h.sum j hj
        · have hj : j = k := by omega
          subst hj
          rw [sumTo_none _ hno, h.new _ hnp]
          omega
    · rw [delI, if_neg h0] at hd
      split at hd
      · cases hd
      · obtain ⟨wt, hwt⟩ : ∃ wt, waitOf n B k = wt := ⟨_, rfl⟩
        have hw1 : sumTo n B k n.flows.length ≤ (gateAt n k).rate * (wt + 1) := by
          rw [← hwt]; exact up_mul hr.1
        have hw0 : 0 ≤ wt := by
          rw [← hwt]
          unfold waitOf
          have := up_bd (s := sumTo n B k n.flows.length) (r := (gateAt n k).rate) (by omega) hr.1
          omega
        rw [hwt] at hd
        have hset : ∀ j : Nat, setW W k wt j = if j = k then wt else W j := fun j => by unfold setW; rw [Int.toNat_natCast]
        have hsame : ∀ i, i < n.flows.length → ∀ q, q ≤ (flowAt n i).path.length → (∀ j, j < q → (gAt n i j : Int) ∈ p) → bT n (setW W k wt) i q = bT n W i q ∧ hiT n (setW W k wt) i q = hiT n W i q := fun i hi q hq hj => by
          have : ∀ j, j < q → setW W k wt (gAt n i j) = W (gAt n i j) := fun j hjq => by
            rw [hset, if_neg]
            intro e
            exact hnp (by rw [← e]; exact hj j hjq)
          exact ⟨bT_congr q this, hiT_congr q this⟩
        refine del_fix_from hv hl r (p ++ [(k : Int)]) _ _ _ W1 D1 e' ⟨fun j => ?_, fun j hj => ?_, fun i hi => ?_, fun j hj => ?_⟩ hd
        · rw [hset]; split
          · exact hw0
          · exact h.pos j
        · rw [hset, if_neg]
          · exact h.new j fun hh => hj ((hmem _).2 (.inl hh))
          · intro e; subst e; exact hj ((hmem _).2 (.inr rfl))
        · obtain ⟨m, hml, hm, hb, hdd⟩ := h.flow i hi
          rcases ht : thru n (k : Int) i
          · have hmore : moreI n k i = false := moreI_miss (by
              unfold thru at ht
              rcases idxI_cases (flowAt n i).path (k : Int) with ⟨h1, _⟩ | ⟨q, h1, h2, h3, _⟩
              · exact h1
              · rw [hasI_hit h2 h3] at ht; cases ht)
            refine ⟨m, hml, fun q hq => (hm q hq).trans ⟨fun hh => (hmem _).2 (.inl hh), fun hh => ?_⟩, ?_, ?_⟩
            · rcases (hmem _).1 hh with hh | hh
              · exact hh
              · have := (hopI_at hv hi hq).1
                rw [hh, ht] at this
                cases this
            · unfold burstI
              rw [hmore, if_neg (by simp), (hsame i hi _ (by omega) fun j hj => (hm j (by omega)).1 (by omega)).1]
              exact hb
            · unfold delayD
              rw [ht, if_neg (by simp), (hsame i hi _ hml fun j hj => (hm j (by omega)).1 hj).2]
              exact hdd
          · have h1 := thru_hop ht
            obtain ⟨q, hq⟩ : ∃ q, hopI n k i = q := ⟨_, rfl⟩
            rw [hq] at h1
            have hmq := hat i hi q h1.1 h1.2 m hm hml
            subst hmq
            have hsm := hsame i hi m hml fun j hj => (hm j (by omega)).1 hj
            have hidx : idxI (flowAt n i).path k = (m : Int) := by
              obtain ⟨q', h2, _, _⟩ := thru_at ht
              unfold hopI at hq
              rw [h2] at hq ⊢
              omega
            refine ⟨m + 1, h1.1, fun q hq => ⟨fun hh => ?_, fun hh => ?_⟩, ?_, ?_⟩
            · rcases Nat.lt_or_ge q m with h3 | h3
              · exact (hmem _).2 (.inl ((hm q hq).1 h3))
              · have : q = m := by omega
                subst this
                exact (hmem _).2 (.inr (by rw [h1.2]))
            · rcases (hmem _).1 hh with hh | hh
              · have := (hm q hq).2 hh; omega
              · have : q = m := gAt_inj hv hi hq h1.1 (by rw [h1.2]; omega)
                omega
            · unfold burstI
              rw [moreI_at hidx]
              by_cases hlast : m + 1 < (flowAt n i).path.length
              · rw [decide_eq_true hlast, if_pos rfl, Nat.min_eq_left (by omega), bT, hsm.1, hb, Nat.min_eq_left (by omega), h1.2, hset, if_pos rfl]
              · rw [decide_eq_false hlast, if_neg (by simp), Nat.min_eq_right (by omega), show (flowAt n i).path.length - 1 = m by omega, hsm.1, hb, Nat.min_eq_left (by omega)]
            · unfold delayD
              rw [ht, if_pos rfl, hiT, hsm.2, hdd, h1.2, hset, if_pos rfl]
        · have hcg : ∀ j : Nat, (j : Int) ∈ p ++ [(k : Int)] → sumTo n (fun i => bT n (setW W k wt) i (hopI n j i)) j n.flows.length = sumTo n (fun i => bT n W i (hopI n j i)) j n.flows.length := fun j hj => sumTo_congr _ fun i hi ht => by
            have h1 := thru_hop ht
            obtain ⟨m, hml, hm, _, _⟩ := h.flow i hi
            refine (hsame i hi _ (by omega) fun q hq => (hm q (by omega)).1 ?_).1
            rcases (hmem _).1 hj with hj | hj
            · have := (hm _ h1.1).2 (by rw [h1.2]; exact hj)
              omega
            · have := hat i hi _ h1.1 (by rw [h1.2]; omega) m hm hml
              omega
          rw [hcg j hj]
          rcases (hmem _).1 hj with hj | hj
          · rw [hset, if_neg (by intro e; rw [e] at hj; exact hnp hj)]
            exact h.sum j hj
          · have hj : j = k := by omega
            subst hj
            rw [← hs, hset, if_pos rfl]
            exact hw1
theorem del_fix {n : MNet} (hv : netB n = true) {l : List Int} (hl : orderS n = some l) {W D : Nat → Int} (hd : delI n l (burst0 n) (fun _ => 0) (fun _ => 0) = some (W, D)) :
    (∀ j, 0 ≤ W j) ∧ (∀ k : Nat, k < n.gates.length → sumTo n (fun i => bT n W i (hopI n k i)) k n.flows.length ≤ (gateAt n k).rate * (W k + 1)) ∧ ∀ i, i < n.flows.length → D i = hiT n W i (flowAt n i).path.length := by
  obtain ⟨B1, h⟩ := del_fix_from hv hl l [] (burst0 n) _ _ W D rfl ⟨fun _ => Int.le_refl _, fun _ _ => rfl, fun i hi => ⟨0, Nat.zero_le _, fun h _ => by simp, by rw [Nat.zero_min]; rfl, rfl⟩, fun k hk => by cases hk⟩ hd
  refine ⟨h.pos, fun k hk => h.sum k (order_all hl hk), fun i hi => ?_⟩
  obtain ⟨m, hml, hm, _, hdd⟩ := h.flow i hi
  have : m = (flowAt n i).path.length := by
    by_cases hlt : m < (flowAt n i).path.length
    · have := (hm m hlt).2 (order_all hl (gAt_ok hv hi hlt).1)
      omega
    · omega
  rw [hdd, this]
end Go.Proofs.Ytlbbhlkbhegegaa
