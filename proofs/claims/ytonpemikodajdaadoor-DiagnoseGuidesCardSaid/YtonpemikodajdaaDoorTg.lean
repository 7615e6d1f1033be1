/- Plain: a tree that grows by choices of tests is right, and how many forks it has. -/
import Derived.Test.YtonpemikodajdaaDoorTw
namespace Go.Proofs.YtonpemikodajdaaDoor
open Go.RowKit

def growC (ch : Nat → Int) (c : MCase) : Nat → Nat → Nat → List MFork
  | 0, _, _ => []
  | u + 1, s, n =>
    if ch s < 0 then [⟨ch s, [], bitsI s⟩]
    else ⟨ch s, (kidsF (growC ch c u) (testAt c (ch s)).outs s n 4).2, bitsI s⟩ :: (kidsF (growC ch c u) (testAt c (ch s)).outs s n 4).1
def growG (ch : Nat → Int) (c : MCase) (s n : Nat) : List MFork := growC ch c (s + 1) s n
/-- choices that a right tree can be grown by -/
structure ChoiceOk (c : MCase) (ch : Nat → Int) : Prop where
  leaf : ∀ s, 0 < s → s < 2 ^ c.weights.length → ch s < 0 → ch s = -1 ∧ alikeB c s (-1) = true
  node : ∀ s, s < 2 ^ c.weights.length → 0 ≤ ch s → ch s < c.tests.length ∧ 2 ≤ partsTo (testAt c (ch s)).outs s 4
section
variable {ch : Nat → Int} {c : MCase}
theorem growC_enough (hc : CaseOk c) (hch : ChoiceOk c ch) : ∀ (s : Nat), s < 2 ^ c.weights.length → ∀ u n, s < u → growC ch c u s n = growG ch c s n := by
  intro s
  induction s using Nat.strongRecOn with
  | ind s ih =>
    intro hs u n hu
    have hs12 := pow12 hc.n2 hs
    obtain ⟨v, rfl⟩ : ∃ v, u = v + 1 := ⟨u - 1, by omega⟩
    unfold growG
    rw [growC, growC]
    by_cases h : ch s < 0
    · rw [if_pos h, if_pos h]
    · rw [if_neg h, if_neg h]
      have hp := (hch.node s hs (by omega)).2
      have : ∀ k, kidsF (growC ch c v) (testAt c (ch s)).outs s n k = kidsF (growC ch c s) (testAt c (ch s)).outs s n k := kidsF_congr fun o m => by
        obtain ⟨p, _, hpo, h2⟩ := partsTo_two (o := o) hp
        have h3 := partS_ne hs12 (fun e => hpo e.symm) h2
        rw [ih _ h3 (by omega) v m (by omega), ih _ h3 (by omega) s m h3]
      rw [this]
theorem growG_leaf {s n : Nat} (h : ch s < 0) : growG ch c s n = [⟨ch s, [], bitsI s⟩] := by unfold growG; rw [growC, if_pos h]
theorem growG_fork (hc : CaseOk c) (hch : ChoiceOk c ch) {s n : Nat} (hs : s < 2 ^ c.weights.length) (h : ¬ ch s < 0) : growG ch c s n = ⟨ch s, (kidsF (growG ch c) (testAt c (ch s)).outs s n 4).2, bitsI s⟩ :: (kidsF (growG ch c) (testAt c (ch s)).outs s n 4).1 := by
  have hs12 := pow12 hc.n2 hs
  have hp := (hch.node s hs (by omega)).2
  have : ∀ k, kidsF (growC ch c s) (testAt c (ch s)).outs s n k = kidsF (growG ch c) (testAt c (ch s)).outs s n k := kidsF_congr fun o m => by
    obtain ⟨p, _, hpo, h2⟩ := partsTo_two (o := o) hp
    have h3 := partS_ne hs12 (fun e => hpo e.symm) h2
    exact growC_enough hc hch _ (by omega) s m h3
  unfold growG
  rw [growC, if_neg h, this]
  rfl
theorem growG_pos (ch : Nat → Int) (c : MCase) (s n : Nat) : 0 < (growG ch c s n).length := by
  unfold growG
  rw [growC]
  split
  · exact Nat.zero_lt_succ _
  · exact Nat.zero_lt_succ _
/-! ### the forks below -/
theorem kidsF_next {G : Nat → Nat → List MFork} {outs : List Int} {s n : Nat} : ∀ {k q : Nat}, q < k → (kidsF G outs s n k).2.getD q 0 = if 0 < partS outs s q then ((n + 1 + (kidsF G outs s n q).1.length : Nat) : Int) else -1
  | k + 1, q, hq => by
    have hl := kidsF_len G outs s n k
    by_cases e : q = k
    · subst e
      by_cases h : 0 < partS outs s q
      · rw [kidsF_yes h, if_pos h, List.getD_eq_getElem?_getD, List.getElem?_append_right (by omega), hl, Nat.sub_self]
        rfl
      · rw [kidsF_no h, if_neg h, List.getD_eq_getElem?_getD, List.getElem?_append_right (by omega), hl, Nat.sub_self]
        rfl
    · rw [← kidsF_next (k := k) (by omega)]
      by_cases h : 0 < partS outs s k
      · rw [kidsF_yes h, List.getD_eq_getElem?_getD, List.getElem?_append_left (by omega), ← List.getD_eq_getElem?_getD]
      · rw [kidsF_no h, List.getD_eq_getElem?_getD, List.getElem?_append_left (by omega), ← List.getD_eq_getElem?_getD]
theorem kidsF_more (G : Nat → Nat → List MFork) (outs : List Int) (s n k : Nat) : ∀ d, ∃ R, (kidsF G outs s n (k + d)).1 = (kidsF G outs s n k).1 ++ R
  | 0 => ⟨[], by simp⟩
  | d + 1 => by
    obtain ⟨R, hR⟩ := kidsF_more G outs s n k d
    rw [← Nat.add_assoc]
    by_cases h : 0 < partS outs s (k + d)
    · rw [kidsF_yes h]
      exact ⟨R ++ G (partS outs s (k + d)) (n + 1 + (kidsF G outs s n (k + d)).1.length), by rw [hR, List.append_assoc]⟩
    · rw [kidsF_no h]
      exact ⟨R, hR⟩
theorem kidsF_lt {G : Nat → Nat → List MFork} (hG : ∀ t m, 0 < (G t m).length) {outs : List Int} {s n q k : Nat} (h : q < k) (hx : 0 < partS outs s q) : (kidsF G outs s n q).1.length < (kidsF G outs s n k).1.length := by
  have h1 := kidsF_mono G outs s n (q + 1) (k - (q + 1))
  rw [show q + 1 + (k - (q + 1)) = k by omega, kidsF_yes hx, List.length_append] at h1
  have := hG (partS outs s q) (n + 1 + (kidsF G outs s n q).1.length)
  omega
/-! ### forks taken in one after the other -/
def runF (c : MCase) (F : List MFork) (i : Nat) : Nat → NN → Option NN
  | 0, S => some S
  | k + 1, S => (runF c F i k S).bind (pFork c F (i + k))
theorem runF_add (c : MCase) (F : List MFork) (i a : Nat) (S : NN) : ∀ b, runF c F i (a + b) S = (runF c F i a S).bind (runF c F (i + a) b)
  | 0 => by
    show runF c F i a S = (runF c F i a S).bind some
    cases runF c F i a S <;> rfl
  | b + 1 => by
    rw [← Nat.add_assoc, runF, runF_add c F i a S b]
    cases h : runF c F i a S
    · rfl
    · show (runF c F (i + a) b _).bind _ = runF c F (i + a) (b + 1) _
      rw [runF, ← Nat.add_assoc]
theorem runF_one (c : MCase) (F : List MFork) (i : Nat) (S : NN) : runF c F i 1 S = pFork c F i S := rfl
theorem runF_zero (c : MCase) (F : List MFork) : ∀ k, runF c F 0 k (root0 c) = pTo c F k
  | 0 => rfl
  | k + 1 => by rw [runF, runF_zero c F k, Nat.zero_add]; rfl
/-- the sets below are laid -/
theorem kids_laid {G : Nat → Nat → List MFork} (hG : ∀ t m, 0 < (G t m).length) {outs : List Int} {s n N : Nat} {S : NN} (hN : n + 1 + (kidsF G outs s n 4).1.length ≤ N) (h0 : ∀ m, n < m → m < n + 1 + (kidsF G outs s n 4).1.length → S m = 0) : ∀ k, k ≤ 4 →
    ∃ S1, pKids N n (partS outs s) (kidsF G outs s n 4).2 k S = some S1 ∧ (∀ q, q < k → 0 < partS outs s q → S1 (n + 1 + (kidsF G outs s n q).1.length) = partS outs s q) ∧ ∀ m, (∀ q, q < k → 0 < partS outs s q → m ≠ n + 1 + (kidsF G outs s n q).1.length) → S1 m = S m
  | 0, _ => ⟨S, rfl, fun q hq => by omega, fun _ _ => rfl⟩
  | k + 1, hk => by
    obtain ⟨S1, h1, h2, h3⟩ := kids_laid hG hN h0 k (by omega)
    have hn := kidsF_next (G := G) (outs := outs) (s := s) (n := n) (k := 4) (q := k) (by omega)
    by_cases hx : 0 < partS outs s k
    · rw [if_pos hx] at hn
      have hlt := kidsF_lt hG (n := n) (show k < 4 by omega) hx
      have hne : ∀ q, q < k → 0 < partS outs s q → (kidsF G outs s n q).1.length < (kidsF G outs s n k).1.length := fun q hq hxq => kidsF_lt hG hq hxq
      have hz : S1 (n + 1 + (kidsF G outs s n k).1.length) = 0 := by
        rw [h3 _ fun q hq hxq e => by have := hne q hq hxq; omega]
        exact h0 _ (by omega) (by omega)
      refine ⟨updN S1 (n + 1 + (kidsF G outs s n k).1.length) (partS outs s k), ?_, fun q hq hxq => ?_, fun m hm => ?_⟩
      · rw [pKids_succ h1, hn]
        unfold pKid
        rw [if_neg (by omega), Int.toNat_natCast, if_pos ⟨⟨by omega, by omega⟩, hz⟩]
      · by_cases e : q = k
        · subst e
          exact updN_self _ _ _
        · have := hne q (by omega) hxq
          rw [updN_ne _ _ (by omega)]
          exact h2 q (by omega) hxq
      · rw [updN_ne _ _ (hm k (by omega) hx)]
        exact h3 m fun q hq => hm q (by omega)
    · rw [if_neg hx] at hn
      refine ⟨S1, ?_, fun q hq hxq => ?_, fun m hm => h3 m fun q hq => hm q (by omega)⟩
      · rw [pKids_succ h1, hn]
        unfold pKid
        rw [if_pos (by omega), if_pos rfl]
      · by_cases e : q = k
        · subst e; exact absurd hxq hx
        · exact h2 q (by omega) hxq
theorem fk_mid {P K R : List MFork} {f : MFork} : fk (P ++ f :: K ++ R) P.length = f := by
  unfold fk
  rw [List.append_assoc, List.cons_append]
  exact get_mid f
/-- what was grown is taken in -/
theorem grow_run (hc : CaseOk c) (hch : ChoiceOk c ch) : ∀ (s : Nat), 0 < s → s < 2 ^ c.weights.length → ∀ (P R F : List MFork) (S : NN), F = P ++ growG ch c s P.length ++ R → S P.length = s → (∀ m, P.length < m → m < P.length + (growG ch c s P.length).length → S m = 0) →
    ∃ S', runF c F P.length (growG ch c s P.length).length S = some S' ∧ ∀ m, (m ≤ P.length ∨ P.length + (growG ch c s P.length).length ≤ m) → S' m = S m := by
  intro s
  induction s using Nat.strongRecOn with
  | ind s ih =>
    intro h0 hs P R F S hF hS hz
    have hs12 := pow12 hc.n2 hs
    by_cases h : ch s < 0
    · rw [growG_leaf h] at hF hz ⊢
      obtain ⟨h1, h2⟩ := hch.leaf s h0 hs h
      have hf : fk F P.length = ⟨ch s, [], bitsI s⟩ := by rw [hF]; exact fk_mid
      refine ⟨S, ?_, fun _ _ => rfl⟩
      show runF c F P.length 1 S = _
      rw [runF_one, fork_leaf (by omega) (by rw [hf, hS]) (by rw [hf]; exact h1), if_pos]
      rw [hf, hS]
      exact ⟨rfl, h2⟩
    · have hgf := growG_fork hc hch (n := P.length) hs h
      obtain ⟨hn1, hn2⟩ := hch.node s hs (by omega)
      obtain ⟨outs, houts⟩ : ∃ outs, (testAt c (ch s)).outs = outs := ⟨_, rfl⟩
      rw [houts] at hgf hn2
      have hG : ∀ t m, 0 < (growG ch c t m).length := growG_pos ch c
      have hlen : (growG ch c s P.length).length = 1 + (kidsF (growG ch c) outs s P.length 4).1.length := by rw [hgf, List.length_cons]; omega
      have hf : fk F P.length = ⟨ch s, (kidsF (growG ch c) outs s P.length 4).2, bitsI s⟩ := by rw [hF, hgf]; exact fk_mid
      have hFl : P.length + 1 + (kidsF (growG ch c) outs s P.length 4).1.length ≤ F.length := by rw [hF, List.length_append, List.length_append, hlen]; omega
      obtain ⟨S1, h1, h2, h3⟩ := kids_laid hG (N := F.length) hFl (S := S) (fun m hm1 hm2 => hz m hm1 (by omega)) 4 (Nat.le_refl _)
      have hfork : pFork c F P.length S = some S1 := by
        rw [fork_node (by omega) (by rw [hf, hS]) (by rw [hf]; show ch s ≠ -1; omega), if_pos, hf, hS]
        · show pKids F.length P.length (partS (testAt c (ch s)).outs s) _ 4 S = _
          rw [houts]
          exact h1
        · rw [hf, hS]
          refine ⟨by show 0 ≤ ch s; omega, hn1, kidsF_len _ _ _ _ _, ?_⟩
          show 2 ≤ partsTo (testAt c (ch s)).outs s 4
          rw [houts]
          exact hn2
      rw [hlen, runF_add, runF_one, hfork]
      show ∃ S', runF c F (P.length + 1) _ S1 = some S' ∧ _
      have hkids : ∀ k, k ≤ 4 → ∃ S2, runF c F (P.length + 1) (kidsF (growG ch c) outs s P.length k).1.length S1 = some S2 ∧ ∀ m, (m ≤ P.length ∨ P.length + 1 + (kidsF (growG ch c) outs s P.length k).1.length ≤ m) → S2 m = S1 m := fun k => by
        induction k with
        | zero => exact fun _ => ⟨S1, rfl, fun _ _ => rfl⟩
        | succ k ihk =>
          intro hk
          obtain ⟨S2, g1, g2⟩ := ihk (by omega)
          by_cases hx : 0 < partS outs s k
          · obtain ⟨p, _, hpo, hp2⟩ := partsTo_two (o := k) hn2
            have hlt := partS_ne hs12 (fun e => hpo e.symm) hp2
            obtain ⟨R2, hR2⟩ := kidsF_more (growG ch c) outs s P.length (k + 1) (4 - (k + 1))
            rw [show k + 1 + (4 - (k + 1)) = 4 by omega, kidsF_yes hx] at hR2
            have hR2 : (kidsF (growG ch c) outs s P.length 4).1 = (kidsF (growG ch c) outs s P.length k).1 ++ growG ch c (partS outs s k) (P.length + 1 + (kidsF (growG ch c) outs s P.length k).1.length) ++ R2 := hR2
            have hPl : (P ++ (⟨ch s, (kidsF (growG ch c) outs s P.length 4).2, bitsI s⟩ : MFork) :: (kidsF (growG ch c) outs s P.length k).1).length = P.length + 1 + (kidsF (growG ch c) outs s P.length k).1.length := by
              rw [List.length_append, List.length_cons]; omega
            have hl4 : (kidsF (growG ch c) outs s P.length 4).1.length = (kidsF (growG ch c) outs s P.length k).1.length + (growG ch c (partS outs s k) (P.length + 1 + (kidsF (growG ch c) outs s P.length k).1.length)).length + R2.length := by
              rw [hR2, List.length_append, List.length_append]
            have := ih (partS outs s k) hlt hx (by omega) (P ++ (⟨ch s, (kidsF (growG ch c) outs s P.length 4).2, bitsI s⟩ : MFork) :: (kidsF (growG ch c) outs s P.length k).1) (R2 ++ R) F S2
            rw [hPl] at this
            obtain ⟨S3, e1, e2⟩ := this (by
              rw [hF, hgf, hR2]
              simp only [List.append_assoc, List.cons_append]) (by
              rw [g2 _ (.inr (Nat.le_refl _))]
              exact h2 k (by omega) hx) (fun m hm1 hm2 => by
              rw [g2 m (.inr (by omega)), h3 m fun q hq hxq e => ?_]
              · exact hz m (by omega) (by omega)
              · rcases Nat.lt_trichotomy q k with hqk | hqk | hqk
                · have := kidsF_lt hG (n := P.length) hqk hxq; omega
                · subst hqk; omega
                · have h9 := kidsF_mono (growG ch c) outs s P.length (k + 1) (q - (k + 1))
                  rw [show k + 1 + (q - (k + 1)) = q by omega, kidsF_yes hx, List.length_append] at h9
                  omega)
            rw [kidsF_yes hx]
            show ∃ S2, runF c F (P.length + 1) ((kidsF (growG ch c) outs s P.length k).1 ++ growG ch c (partS outs s k) _).length S1 = some S2 ∧ ∀ m, (m ≤ P.length ∨ P.length + 1 + ((kidsF (growG ch c) outs s P.length k).1 ++ growG ch c (partS outs s k) _).length ≤ m) → S2 m = S1 m
            rw [List.length_append, runF_add, g1]
            refine ⟨S3, e1, fun m hm => ?_⟩
            rw [e2 m (by omega), g2 m (by omega)]
          · rw [kidsF_no hx]
            exact ⟨S2, g1, g2⟩
      obtain ⟨S2, g1, g2⟩ := hkids 4 (Nat.le_refl _)
      refine ⟨S2, g1, fun m hm => ?_⟩
      rw [g2 m (by omega), h3 m fun q hq hxq e => ?_]
      have := kidsF_lt hG (n := P.length) hq hxq
      omega
/-! ### how many forks -/
def cntN (g : Nat → Int) (l : List Nat) : Nat → Nat
  | 0 => 0
  | k + 1 => cntN g l k + (l.filter fun j => decide (g j = (k : Int))).length
theorem cntN_cons (g : Nat → Int) (x : Nat) (l : List Nat) : ∀ k, cntN g (x :: l) k = cntN g l k + if 0 ≤ g x ∧ g x < k then 1 else 0
  | 0 => by rw [if_neg (by omega)]; rfl
  | k + 1 => by
    rw [cntN, cntN, cntN_cons g x l k]
    by_cases h : g x = (k : Int)
    · have e : (x :: l).filter (fun j => decide (g j = (k : Int))) = x :: l.filter (fun j => decide (g j = (k : Int))) := List.filter_cons_of_pos (by simpa using h)
      rw [e, if_neg (show ¬ (0 ≤ g x ∧ g x < (k : Int)) by omega), if_pos (show 0 ≤ g x ∧ g x < ((k + 1 : Nat) : Int) by omega), List.length_cons]
      omega
    · have e : (x :: l).filter (fun j => decide (g j = (k : Int))) = l.filter (fun j => decide (g j = (k : Int))) := List.filter_cons_of_neg (by simpa using h)
      rw [e]
      by_cases h2 : 0 ≤ g x ∧ g x < k
      · rw [if_pos h2, if_pos (show 0 ≤ g x ∧ g x < ((k + 1 : Nat) : Int) by omega)]; omega
      · rw [if_neg h2, if_neg (show ¬ (0 ≤ g x ∧ g x < ((k + 1 : Nat) : Int)) by omega)]
        omega
theorem cntN_le (g : Nat → Int) (k : Nat) : ∀ l : List Nat, cntN g l k ≤ l.length
  | [] => by
    have : ∀ k, cntN g [] k = 0 := fun k => by
      induction k with
      | zero => rfl
      | succ k ih => rw [cntN, ih]; rfl
    rw [this]
    exact Nat.zero_le _
  | x :: l => by
    have := cntN_le g k l
    rw [cntN_cons, List.length_cons]
    split <;> omega
theorem kids_few {G : Nat → Nat → List MFork} {outs : List Int} {s n : Nat} (hs : s < 4096) (h : ∀ o m, 0 < partS outs s o → (G (partS outs s o) m).length + 1 ≤ 2 * (bitsOf (partS outs s o)).length) : ∀ k, (kidsF G outs s n k).1.length + partsTo outs s k ≤ 2 * cntN (fun j => outs.getD j 0) (bitsOf s) k
  | 0 => Nat.le_refl _
  | k + 1 => by
    have ih := kids_few (n := n) hs h k
    rw [cntN, partsTo, ← bitsOf_part _ _ _ hs]
    by_cases hx : 0 < partS outs s k
    · have := h k (n + 1 + (kidsF G outs s n k).1.length) hx
      rw [kidsF_yes hx, if_pos hx]
      show ((kidsF G outs s n k).1 ++ G (partS outs s k) _).length + _ ≤ _
      rw [List.length_append]
      omega
    · rw [kidsF_no hx, if_neg hx]
      show (kidsF G outs s n k).1.length + _ ≤ _
      omega
theorem growG_few (hc : CaseOk c) (hch : ChoiceOk c ch) : ∀ (s : Nat), 0 < s → s < 2 ^ c.weights.length → ∀ n, (growG ch c s n).length + 1 ≤ 2 * (bitsOf s).length := by
  intro s
  induction s using Nat.strongRecOn with
  | ind s ih =>
    intro h0 hs n
    have hs12 := pow12 hc.n2 hs
    have hpos := bitsOf_pos h0 hs12
    by_cases h : ch s < 0
    · rw [growG_leaf h, List.length_singleton]; omega
    · obtain ⟨hn1, hn2⟩ := hch.node s hs (by omega)
      rw [growG_fork hc hch hs h, List.length_cons]
      have h1 := kids_few (G := growG ch c) (outs := (testAt c (ch s)).outs) (n := n) hs12 (fun o m hx => by
        obtain ⟨p, _, hpo, hp2⟩ := partsTo_two (o := o) hn2
        have hlt := partS_ne hs12 (fun e => hpo e.symm) hp2
        exact ih _ hlt hx (by omega) m) 4
      have h2 := cntN_le (fun j => (testAt c (ch s)).outs.getD j 0) 4 (bitsOf s)
      omega
theorem bits_few (s : Nat) : (bitsOf s).length ≤ 12 := by
  unfold bitsOf
  exact Nat.le_trans (List.length_filter_le _ _) (by simp)
theorem growG_cap (hc : CaseOk c) (hch : ChoiceOk c ch) (n : Nat) : 1 ≤ (growG ch c (fullS c) n).length ∧ (growG ch c (fullS c) n).length ≤ 24 := by
  have h1 := growG_few hc hch (fullS c) (by have := fullS_pos c hc.n1; omega) (fullS_lt c) n
  have h2 := bits_few (fullS c)
  have h3 := growG_pos ch c (fullS c) n
  omega
theorem growG_right (hc : CaseOk c) (hch : ChoiceOk c ch) : rightB c (growG ch c (fullS c) 0) = true := by
  have hcap := growG_cap hc hch 0
  obtain ⟨S', h1, _⟩ := grow_run hc hch (fullS c) (by have := fullS_pos c hc.n1; omega) (fullS_lt c) [] [] (growG ch c (fullS c) 0) (root0 c) (by simp) (if_pos rfl) (fun m hm _ => if_neg (by have : 0 < m := hm; omega))
  have h1 : runF c (growG ch c (fullS c) 0) 0 (growG ch c (fullS c) 0).length (root0 c) = some S' := h1
  rw [runF_zero] at h1
  exact right_yes hcap.1 (by omega) h1
/-- each fork asks for the test that was chosen for its set -/
theorem kids_tests {G : Nat → Nat → List MFork} {outs : List Int} {s n : Nat} {p : MFork → Prop} (h : ∀ o m, 0 < partS outs s o → ∀ f ∈ G (partS outs s o) m, p f) : ∀ k, ∀ f ∈ (kidsF G outs s n k).1, p f
  | 0, f, hf => by cases hf
  | k + 1, f, hf => by
    by_cases hx : 0 < partS outs s k
    · rw [kidsF_yes hx] at hf
      rcases List.mem_append.1 hf with h1 | h1
      · exact kids_tests h k f h1
      · exact h k _ hx f h1
    · rw [kidsF_no hx] at hf
      exact kids_tests h k f hf
theorem growG_tests (hc : CaseOk c) (hch : ChoiceOk c ch) : ∀ (s : Nat), s < 2 ^ c.weights.length → ∀ n, ∀ f ∈ growG ch c s n, ∃ t, t < 2 ^ c.weights.length ∧ f.set = bitsI t ∧ f.test = ch t := by
  intro s
  induction s using Nat.strongRecOn with
  | ind s ih =>
    intro hs n f hf
    have hs12 := pow12 hc.n2 hs
    by_cases h : ch s < 0
    · rw [growG_leaf h] at hf
      obtain rfl := List.mem_singleton.1 hf
      exact ⟨s, hs, rfl, rfl⟩
    · rw [growG_fork hc hch hs h] at hf
      rcases List.mem_cons.1 hf with rfl | hf
      · exact ⟨s, hs, rfl, rfl⟩
      · refine kids_tests (p := fun f => ∃ t, t < 2 ^ c.weights.length ∧ f.set = bitsI t ∧ f.test = ch t) (fun o m hx => ?_) 4 f hf
        obtain ⟨p, _, hpo, hp2⟩ := partsTo_two (o := o) (hch.node s hs (by omega)).2
        have hlt := partS_ne hs12 (fun e => hpo e.symm) hp2
        exact ih _ hlt (by omega) m
theorem bitsI_inj {s t : Nat} (hs : s < 4096) (ht : t < 4096) (h : bitsI s = bitsI t) : s = t := by
  refine bits_eq hs ht fun i hi => ?_
  have h1 : ∀ {m : Nat}, ((i : Int) ∈ bitsI m) ↔ m.testBit i = true := fun {m} => by
    unfold bitsI
    rw [List.mem_map]
    constructor
    · rintro ⟨j, hj, e⟩
      have e : (j : Int) = (i : Int) := e
      have e : j = i := by omega
      subst e
      exact (mem_bitsOf.1 hj).2
    · exact fun h => ⟨i, mem_bitsOf.2 ⟨hi, h⟩, rfl⟩
  rw [Bool.eq_iff_iff, ← h1, ← h1, h]
theorem growG_at (hc : CaseOk c) (hch : ChoiceOk c ch) {S : NN} (hT : TreeOk c (growG ch c (fullS c) 0) S) (hS : ∀ i, S i < 2 ^ c.weights.length) : ∀ i, i < (growG ch c (fullS c) 0).length → (fk (growG ch c (fullS c) 0) i).test = ch (S i) := fun i hi => by
  obtain ⟨t, ht, h1, h2⟩ := growG_tests hc hch (fullS c) (fullS_lt c) 0 (fk (growG ch c (fullS c) 0) i) (by
    unfold fk
    rw [List.getD_eq_getElem?_getD, List.getElem?_eq_getElem hi]
    exact List.getElem_mem hi)
  have h3 := hT.set i hi
  rw [h1] at h3
  have := bitsI_inj (pow12 hc.n2 ht) (pow12 hc.n2 (hS i)) h3
  subst this
  exact h2
end
/-! ### the tree of Guide -/
def bestCh (c : MCase) (s : Nat) : Int := (bestS c s).1
theorem growF_best (c : MCase) : ∀ (u s n : Nat), growF c u s n = growC (bestCh c) c u s n
  | 0, _, _ => rfl
  | u + 1, s, n => by
    rw [growF, growC]
    have : growF c u = growC (bestCh c) c u := by
      funext s n
      exact growF_best c u s n
    rw [this]
    rfl
theorem growS_best (c : MCase) (s n : Nat) : growS c s n = growG (bestCh c) c s n := growF_best c _ _ _
theorem bestCh_ok {c : MCase} (hc : CaseOk c) : ChoiceOk c (bestCh c) :=
  ⟨fun s _ hs h => ⟨by have h1 := (bestS_cap hc hs).1; have h2 : (bestS c s).1 < 0 := h; show (bestS c s).1 = -1; omega, best_none (pow12 hc.n2 hs) h⟩, fun s hs h => ⟨(bestS_cap hc hs).2.1, bestS_parts (pow12 hc.n2 hs) h⟩⟩
/-- the tree of Guide is right, and costs what Guide says -/
theorem guide_right {c : MCase} (hc : CaseOk c) : rightB c (growS c (fullS c) 0) = true := by
  rw [growS_best]
  exact growG_right hc (bestCh_ok hc)
theorem guide_cost {c : MCase} (hc : CaseOk c) : costTo c (growS c (fullS c) 0) c.weights.length = (bestS c (fullS c)).2 := by
  obtain ⟨S, hT, hS⟩ := tree_ok hc (guide_right hc)
  have h1 := hT.n1
  rw [costTo_root hc hT]
  have h2 := costF_best hc hT hS (fun i hi => by
    rw [growS_best] at hT hi ⊢
    exact growG_at hc (bestCh_ok hc) hT hS i hi) (growS c (fullS c) 0).length (i := 0) (by omega) (by omega)
  rw [hT.root] at h2
  exact h2.symm
/-- no right tree costs less -/
theorem guide_least {c : MCase} (hc : CaseOk c) {F : List MFork} (h : rightB c F = true) : (bestS c (fullS c)).2 ≤ costTo c F c.weights.length := by
  obtain ⟨S, hT, hS⟩ := tree_ok hc h
  have h1 := hT.n1
  rw [costTo_root hc hT, ← hT.root]
  exact costF_least hc hT hS F.length (by omega) (by omega)
end Go.Proofs.YtonpemikodajdaaDoor
