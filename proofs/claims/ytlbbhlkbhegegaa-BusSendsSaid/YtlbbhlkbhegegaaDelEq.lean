/- The program's way and the reference's way through the gates come to one answer. -/
import Derived.Test.YtlbbhlkbhegegaaDel3
namespace Go.Proofs.Ytlbbhlkbhegegaa
open Go.RowKit

theorem hasI_mem {l : List Int} {x : Int} : hasI l x = true ↔ x ∈ l := by unfold hasI; simp
theorem nodup_of_split : ∀ {l : List Int}, (∀ p g q, l = p ++ g :: q → g ∉ p) → l.Nodup
  | [], _ => List.nodup_nil
  | x :: t, h => by
    refine List.nodup_cons.2 ⟨fun hx => ?_, nodup_of_split fun p g q e hg => h (x :: p) g q (by rw [e]; rfl) (List.mem_cons_of_mem _ hg)⟩
    obtain ⟨t1, t2, e⟩ := List.append_of_mem hx
    exact h (x :: t1) x t2 (by rw [e]; rfl) (List.mem_cons_self)
theorem card_le : ∀ (G : Nat) (l : List Int), l.Nodup → (∀ x, x ∈ l → ∃ k : Nat, x = (k : Int) ∧ k < G) → l.length ≤ G
  | 0, l, _, h => by
    cases l with
    | nil => simp
    | cons x t =>
      obtain ⟨k, _, hk⟩ := h x (List.mem_cons_self)
      omega
  | G + 1, l, hn, h => by
    have h1 := card_le G (l.erase (G : Int)) (hn.erase _) fun x hx => by
      have hx' := (hn.mem_erase_iff).1 hx
      obtain ⟨k, rfl, hk⟩ := h x hx'.2
      exact ⟨k, rfl, by have := hx'.1; omega⟩
    have h2 := List.length_erase (a := (G : Int)) (l := l)
    split at h2 <;> omega
theorem order_nodup {n : MNet} {l : List Int} (h : orderS n = some l) : ∀ p g q, l = p ++ g :: q → g ∉ p := fun p g q e hg => by
  have := (order_split h e).1
  unfold readyB at this
  rw [hasI_mem.2 hg] at this
  simp at this
theorem order_all {n : MNet} {l : List Int} (h : orderS n = some l) {k : Nat} (hk : k < n.gates.length) : (k : Int) ∈ l := by
  by_cases hm : (k : Int) ∈ l
  · exact hm
  · have h1 := card_le n.gates.length ((k : Int) :: l) (List.nodup_cons.2 ⟨hm, nodup_of_split (order_nodup h)⟩) fun x hx => by
      rcases List.mem_cons.1 hx with rfl | hx
      · exact ⟨k, rfl, hk⟩
      · obtain ⟨p, q, e⟩ := List.append_of_mem hx
        exact (order_split h e).2
    have h2 := order_len h
    simp only [List.length_cons] at h1
    omega
/-- what stands ahead of a gate on a path stands ahead of it in the order -/
theorem order_pred {n : MNet} {l : List Int} (h : orderS n = some l) {f : MFlow} {i : Nat} (hf : n.flows[i]? = some f) : ∀ (q : Nat) (p r : List Int), q < f.path.length → l = p ++ f.path.getD q 0 :: r → ∀ j, j < q → f.path.getD j 0 ∈ p := by
  intro q
  induction q with
  | zero => intro p r _ _ j hj; omega
  | succ q ih =>
    intro p r hq e j hj
    have h1 := (order_split h e).1
    unfold readyB flowsReady at h1
    rw [Bool.and_eq_true, List.all_eq_true] at h1
    have h2 := h1.2 f (List.mem_of_getElem? hf)
    unfold stepB at h2
    rw [List.all_eq_true] at h2
    have h3 := h2 (q + 1) (List.mem_range.2 hq)
    have h4 : f.path.getD q 0 ∈ p := by
      simpa [hasI_mem] using h3
    rcases Nat.lt_or_ge j q with hjq | hjq
    · obtain ⟨p1, p2, e1⟩ := List.append_of_mem h4
      have := ih p1 (p2 ++ f.path.getD (q + 1) 0 :: r) (by omega) (by rw [e, e1]; simp) j hjq
      rw [e1]
      exact List.mem_append_left _ this
    · have : j = q := by omega
      subst this
      exact h4
theorem thru_at {n : MNet} {g : Int} {i : Nat} (h : thru n g i = true) : ∃ q : Nat, idxI (flowAt n i).path g = (q : Int) ∧ q < (flowAt n i).path.length ∧ (flowAt n i).path.getD q 0 = g := by
  unfold thru at h
  rcases idxI_cases (flowAt n i).path g with ⟨h1, _⟩ | ⟨q, h1, h2, h3, _⟩
  · rw [← idxI_has, h1] at h; simp at h
  · exact ⟨q, h1, h2, h3⟩
theorem flow_some {n : MNet} {i : Nat} (hi : i < n.flows.length) : n.flows[i]? = some (flowAt n i) := by
  rw [List.getElem?_eq_getElem hi, flowAt_of (List.getElem?_eq_getElem hi)]
theorem more_of_later {n : MNet} {l : List Int} (h : orderS n = some l) {i : Nat} (hi : i < n.flows.length) {p r : List Int} {g g' : Int} (e : l = p ++ g :: r) (hg : thru n g i = true) (hg' : thru n g' i = true) (hr : g' ∈ r) : moreI n g i = true := by
  obtain ⟨q, h1, h2, h3⟩ := thru_at hg
  obtain ⟨q', h1', h2', h3'⟩ := thru_at hg'
  obtain ⟨r1, r2, er⟩ := List.append_of_mem hr
  have hnp : g' ∉ p ++ g :: r1 := order_nodup h (p ++ g :: r1) g' r2 (by rw [e, er]; simp)
  rw [moreI_at h1]
  refine decide_eq_true ?_
  rcases Nat.lt_trichotomy q' q with hlt | heq | hgt
  · have := order_pred h (flow_some hi) q p r h2 (by rw [h3]; exact e) q' hlt
    rw [h3'] at this
    exact absurd (List.mem_append_left _ this) hnp
  · subst heq
    rw [h3] at h3'
    subst h3'
    exact absurd (by simp) hnp
  · omega
theorem later_of_more {n : MNet} {l : List Int} (hv : netB n = true) (h : orderS n = some l) {i : Nat} (hi : i < n.flows.length) {p r : List Int} {g : Int} (e : l = p ++ g :: r) (hg : thru n g i = true) (hm : moreI n g i = true) : ∃ g', g' ∈ r ∧ thru n g' i = true := by
  obtain ⟨q, h1, h2, h3⟩ := thru_at hg
  rw [moreI_at h1] at hm
  have hq := of_decide_eq_true hm
  have hp := (netB_flow hv (flow_some hi)).2.2
  obtain ⟨v, hv1, hvG⟩ := hop_range hp (k := q + 1) hq
  refine ⟨(flowAt n i).path.getD (q + 1) 0, ?_, hasI_hit hq rfl⟩
  have hin : (flowAt n i).path.getD (q + 1) 0 ∈ l := by rw [hv1]; exact order_all h hvG
  rw [e] at hin
  rcases List.mem_append.1 hin with hin | hin
  · obtain ⟨p1, p2, e1⟩ := List.append_of_mem hin
    have := order_pred h (flow_some hi) (q + 1) p1 (p2 ++ g :: r) hq (by rw [e, e1]; simp) q (by omega)
    rw [h3] at this
    exact absurd (by rw [e1]; exact List.mem_append_left _ this) (order_nodup h p g r e)
  · rcases List.mem_cons.1 hin with hin | hin
    · exact absurd (h3.trans hin.symm) (hop_distinct hp (Nat.lt_succ_self q) hq)
    · exact hin
theorem sumTo_congr {n : MNet} {B B' : Nat → Int} {g : Int} : ∀ k, (∀ i, i < k → thru n g i = true → B i = B' i) → sumTo n B g k = sumTo n B' g k
  | 0, _ => rfl
  | k + 1, h => by
    unfold sumTo
    rw [sumTo_congr k fun i hi => h i (by omega)]
    split
    · rw [h k (by omega) ‹_›]
    · rfl
theorem delR_none {n : MNet} (hv : netB n = true) : ∀ (r : List Int) (B W D : Nat → Int), (∀ g, g ∈ r → ∃ k : Nat, g = (k : Int) ∧ k < n.gates.length) → (∀ i, i < n.flows.length → 0 ≤ B i) →
    (∃ i, i < n.flows.length ∧ 1000000000 < B i ∧ ∃ g, g ∈ r ∧ thru n g i = true) → delR n r B W D = none
  | [], _, _, _, _, _, ⟨_, _, _, _, h, _⟩ => by cases h
  | g :: r, B, W, D, hr, hB, ⟨i, hi, hbig, g', hg', ht⟩ => by
    by_cases hov : ∃ j, j < n.flows.length ∧ overB n B g j = true
    · obtain ⟨j, hj, ho⟩ := hov
      exact delR_over hj ho
    · have ho : ∀ j, j < n.flows.length → overB n B g j = false := fun j hj => by
        rcases hx : overB n B g j
        · rfl
        · exact absurd ⟨j, hj, hx⟩ hov
      have hnt : thru n g i = false := by
        rcases hx : thru n g i
        · rfl
        · have := overB_le (ho i hi) hx
          omega
      have hg2 : g' ∈ r := by
        rcases List.mem_cons.1 hg' with rfl | h
        · rw [hnt] at ht; cases ht
        · exact h
      by_cases h0 : sumTo n B g n.flows.length = 0
      · rw [delR_zero ho h0]
        exact delR_none hv r B W D (fun x hx => hr x (List.mem_cons_of_mem _ hx)) hB ⟨i, hi, hbig, g', hg2, ht⟩
      · rw [delR_step ho h0]
        obtain ⟨k, rfl, hk⟩ := hr g (List.mem_cons_self)
        have hw := wait_bd hv (List.getElem?_eq_getElem hk) (fun j hj htj => ⟨hB j hj, overB_le (ho j hj) htj⟩) h0
        refine delR_none hv r _ _ _ (fun x hx => hr x (List.mem_cons_of_mem _ hx)) (fun j hj => ?_) ⟨i, hi, ?_, g', hg2, ht⟩
        · unfold burstR
          have h1 := hB j hj
          have h2 := (flow_rate hv (flow_some hj)).2.1
          have h3 := Int.mul_nonneg h2 hw.1
          split <;> omega
        · unfold burstR
          rw [hnt]
          exact hbig
theorem del_eq_from {n : MNet} (hv : netB n = true) {l : List Int} (hl : orderS n = some l) : ∀ (r p : List Int) (BI BR W D : Nat → Int), l = p ++ r → (∀ i, i < n.flows.length → 0 ≤ BR i) →
    (∀ i, i < n.flows.length → (∃ g, g ∈ r ∧ thru n g i = true) → BI i = BR i ∧ BI i ≤ 1000000000) → delI n r BI W D = delR n r BR W D
  | [], _, _, _, _, _, _, _, _ => rfl
  | g :: r, p, BI, BR, W, D, e, h0, hinv => by
    have hg : ∀ i, i < n.flows.length → thru n g i = true → BI i = BR i ∧ BI i ≤ 1000000000 := fun i hi ht => hinv i hi ⟨g, List.mem_cons_self, ht⟩
    have hs : sumTo n BI g n.flows.length = sumTo n BR g n.flows.length := sumTo_congr _ fun i hi ht => (hg i hi ht).1
    have hwt : waitOf n BI g = waitOf n BR g := by unfold waitOf; rw [hs]
    have ho : ∀ j, j < n.flows.length → overB n BR g j = false := fun j hj => by
      rcases hx : thru n g j
      · unfold overB; rw [hx]; rfl
      · unfold overB
        rw [hx, Bool.true_and]
        have := hg j hj hx
        exact decide_eq_false (by omega)
    have hrange : ∀ x, x ∈ r → ∃ k : Nat, x = (k : Int) ∧ k < n.gates.length := fun x hx => by
      obtain ⟨r1, r2, er⟩ := List.append_of_mem hx
      exact (order_split hl (p := p ++ g :: r1) (q := r2) (by rw [e, er]; simp)).2
    have e' : l = (p ++ [g]) ++ r := by rw [e]; simp
    by_cases hz : sumTo n BI g n.flows.length = 0
    · rw [delI_zero hz, delR_zero ho (hs ▸ hz)]
      exact del_eq_from hv hl r (p ++ [g]) BI BR W D e' h0 fun i hi ⟨x, hx, ht⟩ => hinv i hi ⟨x, List.mem_cons_of_mem _ hx, ht⟩
    · obtain ⟨k, hgk, hk⟩ := (order_split hl e).2
      have hw := wait_bd hv (List.getElem?_eq_getElem hk) (B := BR) (fun j hj htj => ⟨h0 j hj, by rw [← hgk] at htj; have := hg j hj htj; omega⟩) (by rw [← hgk]; exact hs ▸ hz)
      rw [← hgk] at hw
      have h0' : ∀ i, i < n.flows.length → 0 ≤ burstR n BR g (waitOf n BR g) i := fun i hi => by
        unfold burstR
        have h1 := h0 i hi
        have h2 := (flow_rate hv (flow_some hi)).2.1
        have h3 := Int.mul_nonneg h2 hw.1
        split <;> omega
      rw [delR_step ho (hs ▸ hz)]
      by_cases hov : ∃ j, j < n.flows.length ∧ overB n (burstI n BI g (waitOf n BI g)) g j = true
      · obtain ⟨j, hj, hoj⟩ := hov
        rw [delI_over hz hj hoj]
        unfold overB at hoj
        rw [Bool.and_eq_true] at hoj
        have hbig := of_decide_eq_true hoj.2
        have hm : moreI n g j = true := by
          rcases hx : moreI n g j
          · rw [show burstI n BI g (waitOf n BI g) j = BI j by unfold burstI; rw [hx]; rfl] at hbig
            have := (hg j hj hoj.1).2
            omega
          · rfl
        refine (delR_none hv r _ _ _ hrange h0' ⟨j, hj, ?_, later_of_more hv hl hj e hoj.1 hm⟩).symm
        rw [show burstI n BI g (waitOf n BI g) j = BI j + (flowAt n j).rate * waitOf n BI g by unfold burstI; rw [hm]; rfl] at hbig
        rw [show burstR n BR g (waitOf n BR g) j = BR j + (flowAt n j).rate * waitOf n BR g by unfold burstR; rw [hoj.1]; rfl, ← hwt, ← (hg j hj hoj.1).1]
        exact hbig
      · have hno : ∀ j, j < n.flows.length → overB n (burstI n BI g (waitOf n BI g)) g j = false := fun j hj => by
          rcases hx : overB n (burstI n BI g (waitOf n BI g)) g j
          · rfl
          · exact absurd ⟨j, hj, hx⟩ hov
        rw [delI_step hz hno, hwt]
        refine del_eq_from hv hl r (p ++ [g]) _ _ _ _ e' h0' fun i hi ⟨x, hx, ht⟩ => ?_
        rcases htg : thru n g i
        · have hm : moreI n g i = false := by
            rcases hy : moreI n g i
            · rfl
            · exfalso
              unfold moreI at hy
              rw [Bool.and_eq_true] at hy
              unfold thru at htg
              rw [← idxI_has] at htg
              rw [htg] at hy
              exact absurd hy.1 (by simp)
          rw [show burstI n BI g (waitOf n BR g) i = BI i by unfold burstI; rw [hm]; rfl, show burstR n BR g (waitOf n BR g) i = BR i by unfold burstR; rw [htg]; rfl]
          exact hinv i hi ⟨x, List.mem_cons_of_mem _ hx, ht⟩
        · have hm := more_of_later hl hi e htg ht hx
          have hb := hno i hi
          have hle := overB_le hb htg
          rw [hwt] at hle
          refine ⟨?_, hle⟩
          rw [show burstI n BI g (waitOf n BR g) i = BI i + (flowAt n i).rate * waitOf n BR g by unfold burstI; rw [hm]; rfl, show burstR n BR g (waitOf n BR g) i = BR i + (flowAt n i).rate * waitOf n BR g by unfold burstR; rw [htg]; rfl, (hg i hi htg).1]
theorem del_eq {n : MNet} (hv : netB n = true) {l : List Int} (hl : orderS n = some l) (W D : Nat → Int) : delI n l (burst0 n) W D = delR n l (burst0 n) W D :=
  del_eq_from hv hl l [] _ _ _ _ rfl (fun i hi => by have := flow_rate hv (flow_some hi); unfold burst0; omega) fun i hi _ => ⟨rfl, by have := flow_rate hv (flow_some hi); unfold burst0; omega⟩
end Go.Proofs.Ytlbbhlkbhegegaa
