/- Plain laws of a play: no release is sent before it is there, no two at once, the bus rests only if nothing waits, and what is sent is the best of what waits. -/
import Derived.Test.YtlbbhlkbhegegaaPl2
import Derived.Test.YtlbbhlkbhegegaaR9
namespace Go.Proofs.Ytlbbhlkbhegegaa
open Go.RowKit

def szP (l : List MFrame) (rs : List MGate) (k : Nat) : Int := sizeOf_ l (relAt rs k)
def goodP (l : List MFrame) (rs : List MGate) (i k : Nat) : Prop := beforeB l (relAt rs k) (relAt rs i) = false ∧ (k < i → beforeB l (relAt rs i) (relAt rs k) = true)
/-- before is a strict weak order -/
structure Weak (l : List MFrame) (rs : List MGate) : Prop where
  irr : ∀ a, a < rs.length → beforeB l (relAt rs a) (relAt rs a) = false
  asym : ∀ a b, a < rs.length → b < rs.length → beforeB l (relAt rs a) (relAt rs b) = true → beforeB l (relAt rs b) (relAt rs a) = false
  lt_le : ∀ a b c, a < rs.length → b < rs.length → c < rs.length → beforeB l (relAt rs a) (relAt rs b) = true → beforeB l (relAt rs c) (relAt rs b) = false → beforeB l (relAt rs a) (relAt rs c) = true
theorem before_key {l : List MFrame} (hv : framesB l = true) {a b : MGate} (ha : 0 ≤ a.rate ∧ a.rate < l.length) (hb : 0 ≤ b.rate ∧ b.rate < l.length) : ∃ ra rb, beforeB l a b = decide (ra < rb ∨ ra = rb ∧ a.delay < b.delay) ∧ ra = (l.getD a.rate.toNat ⟨0, 0, 0, 0, 0⟩).rank ∧ rb = (l.getD b.rate.toNat ⟨0, 0, 0, 0, 0⟩).rank := by
  refine ⟨_, _, ?_, rfl, rfl⟩
  unfold beforeB
  by_cases e : a.rate = b.rate
  · rw [if_pos e, e]
    exact decide_eq_decide.2 (by omega)
  · rw [if_neg e]
    have h1 : l[a.rate.toNat]? = some l[a.rate.toNat] := List.getElem?_eq_getElem (by omega)
    have h2 : l[b.rate.toNat]? = some l[b.rate.toNat] := List.getElem?_eq_getElem (by omega)
    have hne := frames_rank hv h1 h2 (by omega)
    rw [List.getD_eq_getElem?_getD, List.getD_eq_getElem?_getD, h1, h2]
    simp only [Option.getD_some]
    exact decide_eq_decide.2 (by omega)
theorem weak_of {l : List MFrame} {rs : List MGate} (hv : framesB l = true) (hR : relsB l.length rs = true) : Weak l rs := by
  have hr : ∀ k, k < rs.length → 0 ≤ (relAt rs k).rate ∧ (relAt rs k).rate < l.length := fun k hk => by
    have hk' : rs[k]? = some rs[k] := List.getElem?_eq_getElem hk
    rw [relAt_of hk']
    exact (relsB_at hR hk').1
  refine ⟨fun a ha => ?_, fun a b ha hb h => ?_, fun a b c ha hb hc h h' => ?_⟩
  · obtain ⟨ra, rb, e, e1, e2⟩ := before_key hv (hr a ha) (hr a ha)
    rw [e]
    exact decide_eq_false (by omega)
  · obtain ⟨ra, rb, e, e1, e2⟩ := before_key hv (hr a ha) (hr b hb)
    obtain ⟨rc, rd, e', e3, e4⟩ := before_key hv (hr b hb) (hr a ha)
    rw [e] at h
    rw [e']
    have := of_decide_eq_true h
    exact decide_eq_false (by omega)
  · obtain ⟨ra, rb, e, e1, e2⟩ := before_key hv (hr a ha) (hr b hb)
    obtain ⟨rc, rd, e', e3, e4⟩ := before_key hv (hr c hc) (hr b hb)
    obtain ⟨re, rf, e'', e5, e6⟩ := before_key hv (hr a ha) (hr c hc)
    rw [e] at h
    rw [e'] at h'
    rw [e'']
    have h1 := of_decide_eq_true h
    have h2 := of_decide_eq_false h'
    exact decide_eq_true (by omega)
/-- what is picked is the best that waits -/
theorem pick_best {l : List MFrame} {rs : List MGate} {E : Nat → Int} {now : Int} (hW : Weak l rs) : ∀ {k i : Nat}, k ≤ rs.length → pickTo l rs E now k = some i → ∀ j, j < k → waitsB E rs now j = true → goodP l rs i j
  | 0, _, _, h, _, _, _ => by cases h
  | k + 1, i, hk, h, j, hj, hw => by
    rw [pickTo] at h
    rcases hp : pickTo l rs E now k with _ | c
    · rw [hp] at h
      have hn := pickTo_none hp
      by_cases e : j = k
      · subst e
        simp only [if_pos hw] at h
        injection h with h
        subst h
        exact ⟨hW.irr _ (by omega), fun h => by omega⟩
      · have := hn j (by omega)
        rw [this] at hw; cases hw
    · rw [hp] at h
      have hc := pickTo_some hp
      have ih := pick_best hW (by omega) hp
      by_cases hb : (waitsB E rs now k && beforeB l (relAt rs k) (relAt rs c)) = true
      · simp only [if_pos hb] at h
        injection h with h
        subst h
        rw [Bool.and_eq_true] at hb
        by_cases e : j = k
        · subst e
          exact ⟨hW.irr _ (by omega), fun h => by omega⟩
        · have h1 := ih j (by omega) hw
          have h2 := hW.lt_le k c j (by omega) (by omega) (by omega) hb.2 h1.1
          exact ⟨hW.asym _ _ (by omega) (by omega) h2, fun _ => h2⟩
      · simp only [if_neg hb] at h
        injection h with h
        subst h
        by_cases e : j = k
        · subst e
          rw [hw, Bool.true_and] at hb
          exact ⟨by simpa using hb, fun h => by omega⟩
        · exact ih j (by omega) hw
theorem soon_min {rs : List MGate} {E : Nat → Int} {now : Int} : ∀ {k : Nat} {s : Int}, soonTo rs E now k = some s → ∀ j, j < k → laterB E rs now j = true → s ≤ (relAt rs j).delay
  | 0, s, h, _, _, _ => by cases h
  | k + 1, s, h, j, hj, hl => by
    rw [soonTo] at h
    by_cases hw : laterB E rs now k = true
    · rw [if_pos hw] at h
      rcases hp : soonTo rs E now k with _ | s0
      · rw [hp] at h
        injection h with h
        by_cases e : j = k
        · subst e; omega
        · have := soonTo_none hp j (by omega)
          rw [this] at hl; cases hl
      · rw [hp] at h
        have ih := soon_min hp
        by_cases hd : (relAt rs k).delay < s0
        · simp only [if_pos hd] at h
          injection h with h
          by_cases e : j = k
          · subst e; omega
          · have := ih j (by omega) hl
            omega
        · simp only [if_neg hd] at h
          injection h with h
          by_cases e : j = k
          · subst e; omega
          · have := ih j (by omega) hl
            omega
    · rw [if_neg hw] at h
      by_cases e : j = k
      · subst e; exact absurd hl hw
      · exact soon_min h j (by omega) hl

structure PInv (l : List MFrame) (rs : List MGate) (E : Nat → Int) (now : Int) : Prop where
  pos : 0 ≤ now
  at_ : ∀ i, i < rs.length → 0 ≤ E i → (relAt rs i).delay ≤ E i - szP l rs i ∧ E i ≤ now
  apart : ∀ i j, i < rs.length → j < rs.length → i ≠ j → 0 ≤ E i → 0 ≤ E j → E i - szP l rs i < E j → E j - szP l rs j < E i → False
  busy : ∀ (t : Int) (k : Nat), k < rs.length → (relAt rs k).delay ≤ t → t < now → (E k < 0 ∨ t < E k - szP l rs k) → ∃ j, j < rs.length ∧ 0 ≤ E j ∧ E j - szP l rs j ≤ t ∧ t < E j
  best : ∀ i k, i < rs.length → k < rs.length → 0 ≤ E i → (relAt rs k).delay ≤ E i - szP l rs i → (E k < 0 ∨ E i - szP l rs i < E k - szP l rs k) → goodP l rs i k
theorem PInv.init {l : List MFrame} {rs : List MGate} (hA : ∀ k, k < rs.length → 0 ≤ (relAt rs k).delay) : PInv l rs (fun _ => -1) 0 :=
  ⟨by omega, fun i _ h => by omega, fun i j _ _ _ h => by omega, fun t k hk h1 h2 _ => by have := hA k hk; omega, fun i k _ _ h => by omega⟩
theorem PInv.step {l : List MFrame} {rs : List MGate} {E : Nat → Int} {now t : Int} {i : Nat} (hW : Weak l rs) (hS : ∀ k, k < rs.length → 1 ≤ szP l rs k) (h : PInv l rs E now) (hp : pickTo l rs E t rs.length = some i)
    (ht : now ≤ t) (hwt : now < t → ∀ k, k < rs.length → E k < 0 → t ≤ (relAt rs k).delay) : PInv l rs (updE E i (t + szP l rs i)) (t + szP l rs i) := by
  obtain ⟨hil, hiw⟩ := pickTo_some hp
  unfold waitsB at hiw
  rw [Bool.and_eq_true] at hiw
  have hEi := of_decide_eq_true hiw.1
  have hti := of_decide_eq_true hiw.2
  have hsi := hS i hil
  have hpos := h.pos
  have ei : updE E i (t + szP l rs i) i = t + szP l rs i := by unfold updE; rw [if_pos rfl]
  have en : ∀ k, k ≠ i → updE E i (t + szP l rs i) k = E k := fun k hk => by unfold updE; rw [if_neg hk]
  refine ⟨by omega, fun k hk h0 => ?_, fun j k hj hk hjk h0 h1 h2 h3 => ?_, fun t' k hk h1 h2 h3 => ?_, fun j k hj hk h0 h1 h2 => ?_⟩
  · by_cases e : k = i
    · subst e; rw [ei]; omega
    · rw [en k e] at h0 ⊢
      have := h.at_ k hk h0
      omega
  · by_cases ej : j = i
    · subst ej
      rw [ei] at h0 h2 h3
      rw [en k (fun e => hjk e.symm)] at h1 h2 h3
      have := h.at_ k hk h1
      omega
    · by_cases ek : k = i
      · subst ek
        rw [ei] at h1 h2 h3
        rw [en j ej] at h0 h2 h3
        have := h.at_ j hj h0
        omega
      · rw [en j ej] at h0 h2 h3
        rw [en k ek] at h1 h2 h3
        exact h.apart j k hj hk hjk h0 h1 h2 h3
  · by_cases hlt : t' < now
    · have hold : E k < 0 ∨ t' < E k - szP l rs k := by
        by_cases ek : k = i
        · subst ek; exact Or.inl hEi
        · rw [en k ek] at h3; exact h3
      obtain ⟨j, hj, j0, j1, j2⟩ := h.busy t' k hk h1 hlt hold
      have hji : j ≠ i := fun e => by subst e; omega
      exact ⟨j, hj, by rw [en j hji]; exact ⟨j0, j1, j2⟩⟩
    · by_cases hlt2 : t' < t
      · exfalso
        by_cases ek : k = i
        · subst ek
          have := hwt (by omega) k hk hEi
          omega
        · rw [en k ek] at h3
          rcases h3 with h3 | h3
          · have := hwt (by omega) k hk h3
            omega
          · have hk0 := hS k hk
            have := h.at_ k hk (by omega)
            omega
      · exact ⟨i, hil, by rw [ei]; omega⟩
  · by_cases ej : j = i
    · subst ej
      rw [ei] at h0 h1 h2
      by_cases ek : k = j
      · subst ek
        rw [ei] at h2
        omega
      · rw [en k ek] at h2
        rcases h2 with h2 | h2
        · refine pick_best hW (Nat.le_refl _) hp k hk ?_
          unfold waitsB
          rw [decide_eq_true h2, decide_eq_true (by omega)]; rfl
        · have hk0 := hS k hk
          have := h.at_ k hk (by omega)
          omega
    · rw [en j ej] at h0 h1 h2
      by_cases ek : k = i
      · subst ek
        exact h.best j k hj hk h0 h1 (Or.inl hEi)
      · rw [en k ek] at h2
        exact h.best j k hj hk h0 h1 h2
theorem cntN_ex {R : Nat → Int} : ∀ n, 0 < cntN R n → ∃ k, k < n ∧ R k < 0
  | 0, h => by simp [cntN] at h
  | n + 1, h => by
    rw [cntN] at h
    by_cases h1 : R n < 0
    · exact ⟨n, by omega, h1⟩
    · rw [if_neg h1] at h
      obtain ⟨k, hk, hR⟩ := cntN_ex n (by omega)
      exact ⟨k, by omega, hR⟩
theorem cntN_zero {R : Nat → Int} {n k : Nat} (h : cntN R n = 0) (hk : k < n) : 0 ≤ R k := by
  rcases Int.lt_or_le (R k) 0 with h1 | h1
  · have := cntN_pos hk h1; omega
  · exact h1
theorem playGo_inv {l : List MFrame} {rs : List MGate} (hW : Weak l rs) (hS : ∀ k, k < rs.length → 1 ≤ szP l rs k) : ∀ (u : Nat) (now : Int) (E : Nat → Int), PInv l rs E now → cntN E rs.length = u → ∃ t, PInv l rs (playGo l rs u now E) t ∧ ∀ k, k < rs.length → 0 ≤ playGo l rs u now E k
  | 0, now, E, h, hu => ⟨now, h, fun k hk => cntN_zero hu hk⟩
  | u + 1, now, E, h, hu => by
    have hgo : ∀ t i, now ≤ t → (now < t → ∀ k, k < rs.length → E k < 0 → t ≤ (relAt rs k).delay) → pickTo l rs E t rs.length = some i → ∃ t', PInv l rs (playGo l rs u (t + szP l rs i) (updE E i (t + szP l rs i))) t' ∧ ∀ k, k < rs.length → 0 ≤ playGo l rs u (t + szP l rs i) (updE E i (t + szP l rs i)) k := fun t i ht hwt hp => by
      have hst := h.step hW hS hp ht hwt
      obtain ⟨hil, hiw⟩ := pickTo_some hp
      unfold waitsB at hiw
      rw [Bool.and_eq_true] at hiw
      have hpos := hst.pos
      have hc := cntN_upd (x := t + szP l rs i) hpos (of_decide_eq_true hiw.1) rs.length
      rw [if_pos hil] at hc
      exact playGo_inv hW hS u _ _ hst (by omega)
    rcases hp : pickTo l rs E now rs.length with _ | i
    · obtain ⟨k, hk, hE⟩ := cntN_ex rs.length (show 0 < cntN E rs.length by omega)
      have hall : ∀ j, j < rs.length → E j < 0 → laterB E rs now j = true := fun j hj hEj => by
        have := pickTo_none hp j hj
        unfold waitsB at this
        rw [decide_eq_true hEj, Bool.true_and] at this
        have h2 := of_decide_eq_false this
        unfold laterB
        rw [decide_eq_true hEj, decide_eq_true (show now < (relAt rs j).delay by omega)]
        rfl
      rcases hs : soonTo rs E now rs.length with _ | s
      · have := soonTo_none hs k hk
        rw [hall k hk hE] at this; cases this
      · have hmin : ∀ j, j < rs.length → E j < 0 → s ≤ (relAt rs j).delay := fun j hj hEj => soon_min hs j hj (hall j hj hEj)
        have hns : now ≤ s := by
          obtain ⟨j, _, hl, hd⟩ := soonTo_some hs
          unfold laterB at hl
          rw [Bool.and_eq_true] at hl
          have := of_decide_eq_true hl.2
          omega
        rw [playGo_wait hp hs]
        rcases hp2 : pickTo l rs E s rs.length with _ | i
        · exact absurd hp2 (pick_soon hs)
        · rw [playGo_some hp2]
          exact hgo s i hns (fun _ => hmin) hp2
    · rw [playGo_some hp]
      exact hgo now i (Int.le_refl _) (fun h => by omega) hp
/-- what a play gives -/
structure PlayOk (l : List MFrame) (rs : List MGate) (E : Nat → Int) : Prop where
  at_ : ∀ i, i < rs.length → (relAt rs i).delay ≤ E i - szP l rs i
  apart : ∀ i j, i < rs.length → j < rs.length → i ≠ j → E i - szP l rs i < E j → E j - szP l rs j < E i → False
  busy : ∀ (t : Int) (k : Nat), k < rs.length → (relAt rs k).delay ≤ t → t < E k - szP l rs k → ∃ j, j < rs.length ∧ E j - szP l rs j ≤ t ∧ t < E j
  best : ∀ i k, i < rs.length → k < rs.length → (relAt rs k).delay ≤ E i - szP l rs i → E i - szP l rs i < E k - szP l rs k → goodP l rs i k
theorem szP_bd {l : List MFrame} {rs : List MGate} (h : relS l rs = 0) {k : Nat} (hk : k < rs.length) : 1 ≤ szP l rs k ∧ szP l rs k ≤ 1000 := by
  obtain ⟨hv, _, hR⟩ := relS_parts h
  have hk' : rs[k]? = some rs[k] := List.getElem?_eq_getElem hk
  have hr := relsB_at hR hk'
  have hf : l[rs[k].rate.toNat]? = some l[rs[k].rate.toNat] := List.getElem?_eq_getElem (by omega)
  have := (framesB_parts hv).2 _ _ hf
  unfold szP sizeOf_
  rw [relAt_of hk', List.getD_eq_getElem?_getD, hf]
  exact this.1
theorem play_ok {l : List MFrame} {rs : List MGate} (h : relS l rs = 0) : PlayOk l rs (playS l rs) ∧ ∀ k, k < rs.length → 0 ≤ playS l rs k := by
  obtain ⟨hv, _, hR⟩ := relS_parts h
  have hA : ∀ k, k < rs.length → 0 ≤ (relAt rs k).delay := fun k hk => by
    have hk' : rs[k]? = some rs[k] := List.getElem?_eq_getElem hk
    rw [relAt_of hk']
    exact (relsB_at hR hk').2.1
  obtain ⟨t, hI, h0⟩ := playGo_inv (weak_of hv hR) (fun k hk => (szP_bd h hk).1) rs.length 0 (fun _ => -1) (PInv.init hA) (cntN_all _)
  refine ⟨⟨fun i hi => (hI.at_ i hi (h0 i hi)).1, fun i j hi hj hij => hI.apart i j hi hj hij (h0 i hi) (h0 j hj), fun t' k hk h1 h2 => ?_, fun i k hi hk h1 h2 => hI.best i k hi hk (h0 i hi) h1 (Or.inr h2)⟩, h0⟩
  have hs := (szP_bd h hk).1
  have hle := (hI.at_ k hk (h0 k hk)).2
  obtain ⟨j, hj, _, h4⟩ := hI.busy t' k hk h1 (by unfold playS at h2; omega) (Or.inr h2)
  exact ⟨j, hj, h4⟩
end Go.Proofs.Ytlbbhlkbhegegaa
