/- Plain laws: with a greater burst or rate no wait and no delay becomes shorter. -/
import Derived.Test.YtlbbhlkbhegegaaL1
namespace Go.Proofs.Ytlbbhlkbhegegaa
open Go.RowKit

/-- the second net: the same gates and paths, greater flows -/
structure LeN (n n' : MNet) : Prop where
  gates : n'.gates = n.gates
  paths : n'.flows.map (·.path) = n.flows.map (·.path)
  le : ∀ i, i < n.flows.length → (flowAt n i).burst ≤ (flowAt n' i).burst ∧ (flowAt n i).rate ≤ (flowAt n' i).rate
theorem LeN.len {n n' : MNet} (h : LeN n n') : n'.flows.length = n.flows.length := by
  have := congrArg List.length h.paths
  simpa using this
theorem LeN.path {n n' : MNet} (h : LeN n n') (i : Nat) : (flowAt n' i).path = (flowAt n i).path := by
  have h1 := congrArg (fun l : List (List Int) => l.getD i []) h.paths
  simp only [List.getD_eq_getElem?_getD, List.getElem?_map] at h1
  unfold flowAt
  rw [List.getD_eq_getElem?_getD, List.getD_eq_getElem?_getD]
  rcases h2 : n'.flows[i]? with _ | f' <;> rcases h3 : n.flows[i]? with _ | f <;> rw [h2, h3] at h1 <;> simpa using h1
theorem ready_same {n n' : MNet} (h : LeN n n') (out : List Int) (g : Int) : readyB n' out g = readyB n out g := by
  unfold readyB flowsReady
  have e : ∀ m : MNet, (m.flows.all fun f => stepB out g f.path) = (m.flows.map (·.path)).all (stepB out g) := fun m => by rw [List.all_map]; rfl
  rw [e, e, h.paths]
theorem order_same {n n' : MNet} (h : LeN n n') : orderS n' = orderS n := by
  have hn : ∀ out, nextG n' out = nextG n out := fun out => by
    unfold nextG
    rw [h.gates]
    congr 1
    funext g
    exact ready_same h out g
  have key : ∀ (m : Nat) (out : List Int), orderFrom n' m out = orderFrom n m out := fun m => by
    induction m with
    | zero => intro out; rfl
    | succ m ih =>
      intro out
      rw [orderFrom, orderFrom, hn]
      rcases nextG n out with _ | g
      · rfl
      · exact ih _
  unfold orderS
  rw [h.gates, key]
theorem thru_same {n n' : MNet} (h : LeN n n') (g : Int) (i : Nat) : thru n' g i = thru n g i := by unfold thru; rw [h.path]
theorem more_same {n n' : MNet} (h : LeN n n') (g : Int) (i : Nat) : moreI n' g i = moreI n g i := by unfold moreI; rw [h.path]
theorem sum_le {n n' : MNet} (h : LeN n n') {B B' : Nat → Int} {g : Int} : ∀ k, (∀ i, i < k → 1 ≤ B i ∧ B i ≤ B' i) → 0 ≤ sumTo n B g k ∧ sumTo n B g k ≤ sumTo n' B' g k ∧ (sumTo n B g k = 0 ↔ sumTo n' B' g k = 0)
  | 0, _ => by simp [sumTo]
  | k + 1, hB => by
    have ih := sum_le h (B := B) (B' := B') (g := g) k (fun i hi => hB i (by omega))
    have h1 := hB k (by omega)
    rw [sumTo, sumTo, thru_same h]
    split
    · refine ⟨by omega, by omega, ?_⟩
      constructor <;> intro h2 <;> omega
    · simpa using ih
theorem up_le {s s' r : Int} (hr : 1 ≤ r) (h : s ≤ s') : (s + r - 1) / r ≤ (s' + r - 1) / r := Int.ediv_le_ediv (by omega) (by omega)
theorem del_le {n n' : MNet} (h : LeN n n') (hv : netB n = true) : ∀ (r : List Int) (B B' W W' D D' : Nat → Int) (W1 W1' D1 D1' : Nat → Int), (∀ g, g ∈ r → ∃ k : Nat, g = (k : Int) ∧ k < n.gates.length) →
    (∀ i, i < n.flows.length → 1 ≤ B i ∧ B i ≤ B' i) → (∀ i, W i ≤ W' i) → (∀ i, D i ≤ D' i) → delI n r B W D = some (W1, D1) → delI n' r B' W' D' = some (W1', D1') → (∀ i, W1 i ≤ W1' i) ∧ ∀ i, D1 i ≤ D1' i
  | [], B, B', W, W', D, D', W1, W1', D1, D1', _, _, hW, hD, e, e' => by
    rw [delI] at e e'
    injection e with e
    injection e with e1 e2
    injection e' with e'
    injection e' with e1' e2'
    subst e1 e2 e1' e2'
    exact ⟨hW, hD⟩
  | g :: r, B, B', W, W', D, D', W1, W1', D1, D1', hr, hB, hW, hD, e, e' => by
    have hs := sum_le h (g := g) n.flows.length hB
    have hlen := h.len
    have hr' := fun x hx => hr x (List.mem_cons_of_mem _ hx)
    by_cases h0 : sumTo n B g n.flows.length = 0
    · rw [delI_zero h0] at e
      rw [delI_zero (by rw [hlen]; exact hs.2.2.1 h0)] at e'
      exact del_le h hv r B B' W W' D D' W1 W1' D1 D1' hr' hB hW hD e e'
    · have h0' : sumTo n' B' g n'.flows.length ≠ 0 := by rw [hlen]; exact fun x => h0 (hs.2.2.2 x)
      obtain ⟨k, rfl, hk⟩ := hr g List.mem_cons_self
      have hg : n.gates[k]? = some n.gates[k] := List.getElem?_eq_getElem hk
      have hg' : n'.gates[k]? = some n.gates[k] := by rw [h.gates]; exact hg
      have hrate := (netB_gate hv hg).1
      have hw1 : waitOf n B k ≤ waitOf n' B' k := by
        unfold waitOf
        rw [gateAt_of hg, gateAt_of hg', hlen]
        have := up_le (r := n.gates[k].rate) (by omega) hs.2.1
        omega
      have hw0 : 0 ≤ waitOf n B k := by
        unfold waitOf
        rw [gateAt_of hg]
        have := up_bd (s := sumTo n B k n.flows.length) (r := n.gates[k].rate) (by omega) (by omega)
        omega
      have step : ∀ {m : MNet} {C V E : Nat → Int} {V1 E1 : Nat → Int}, sumTo m C (k : Int) m.flows.length ≠ 0 → delI m ((k : Int) :: r) C V E = some (V1, E1) → delI m r (burstI m C k (waitOf m C k)) (setW V k (waitOf m C k)) (delayD m E k (waitOf m C k)) = some (V1, E1) := fun hz he => by
        rw [delI, if_neg hz] at he
        split at he
        · cases he
        · exact he
      have e2 := step h0 e
      have e2' := step h0' e'
      refine del_le h hv r _ _ _ _ _ _ W1 W1' D1 D1' hr' (fun i hi => ?_) (fun i => ?_) (fun i => ?_) e2 e2'
      · have h1 := hB i hi
        have h2 := h.le i hi
        have h3 := (flow_rate hv (List.getElem?_eq_getElem hi)).2
        rw [← flowAt_of (List.getElem?_eq_getElem hi)] at h3
        unfold burstI
        rw [more_same h]
        split
        · have h4 : 0 ≤ (flowAt n i).rate * waitOf n B k := Int.mul_nonneg h3.1 hw0
          have h5 : (flowAt n i).rate * waitOf n B k ≤ (flowAt n' i).rate * waitOf n' B' k := Int.mul_le_mul h2.2 hw1 hw0 (by omega)
          omega
        · exact h1
      · unfold setW
        split
        · exact hw1
        · exact hW i
      · have h1 := hD i
        unfold delayD
        rw [thru_same h, gateAt_of hg, gateAt_of hg']
        split <;> omega
theorem getD_map_range {n k : Nat} (F : Nat → Int) (hk : k < n) : ((List.range n).map F).getD k 0 = F k := by
  simp [List.getD_eq_getElem?_getD, hk]
theorem delOut_ok {n : MNet} {x a : List Int} (hp : delOut n = (x, a, 0)) : netB n = true ∧ ∃ l W D, orderS n = some l ∧ delI n l (burst0 n) (fun _ => 0) (fun _ => 0) = some (W, D) ∧ x = (List.range n.gates.length).map W ∧ a = (List.range n.flows.length).map D := by
  unfold delOut at hp
  by_cases hc : checkS n = 0
  · rw [if_neg (by simpa using hc)] at hp
    obtain ⟨hv, l, hl⟩ := check_parts hc
    rw [hl] at hp
    simp only at hp
    rcases hd : delI n l (burst0 n) (fun _ => 0) (fun _ => 0) with _ | ⟨W, D⟩
    · simp only [hd, Prod.mk.injEq] at hp
      omega
    · simp only [hd, Prod.mk.injEq] at hp
      exact ⟨hv, l, W, D, hl, hd, hp.1.symm, hp.2.1.symm⟩
  · rw [if_pos hc] at hp
    simp only [Prod.mk.injEq] at hp
    exact absurd hp.2.2 hc
theorem delOut_le {n n' : MNet} (h : LeN n n') {x a x' a' : List Int} (hp : delOut n = (x, a, 0)) (hp' : delOut n' = (x', a', 0)) :
    (x.length = x'.length ∧ ∀ k, k < x.length → x.getD k 0 ≤ x'.getD k 0) ∧ a.length = a'.length ∧ ∀ k, k < a.length → a.getD k 0 ≤ a'.getD k 0 := by
  obtain ⟨hv, l, W, D, hl, hd, rfl, rfl⟩ := delOut_ok hp
  obtain ⟨hv', l', W', D', hl', hd', rfl, rfl⟩ := delOut_ok hp'
  rw [order_same h, hl] at hl'
  injection hl' with hl'
  subst hl'
  have hr : ∀ g, g ∈ l → ∃ k : Nat, g = (k : Int) ∧ k < n.gates.length := fun g hg => by
    obtain ⟨p, q, e⟩ := List.append_of_mem hg
    exact (order_split hl e).2
  have hle := del_le h hv l (burst0 n) (burst0 n') (fun _ => 0) (fun _ => 0) (fun _ => 0) (fun _ => 0) W W' D D' hr (fun i hi => by
    have h1 := (flow_rate hv (List.getElem?_eq_getElem hi)).1
    rw [← flowAt_of (List.getElem?_eq_getElem hi)] at h1
    have := (h.le i hi).1
    unfold burst0
    omega) (fun _ => Int.le_refl _) (fun _ => Int.le_refl _) hd hd'
  rw [h.gates, h.len]
  refine ⟨⟨by simp, fun k hk => ?_⟩, by simp, fun k hk => ?_⟩
  · have hk : k < n.gates.length := by simpa using hk
    rw [getD_map_range _ hk, getD_map_range _ hk]
    exact hle.1 k
  · have hk : k < n.flows.length := by simpa using hk
    rw [getD_map_range _ hk, getD_map_range _ hk]
    exact hle.2 k
end Go.Proofs.Ytlbbhlkbhegegaa
