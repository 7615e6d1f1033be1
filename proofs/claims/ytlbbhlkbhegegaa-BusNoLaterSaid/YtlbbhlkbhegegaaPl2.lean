/- Plain: how a bus plays releases. -/
import Derived.Test.YtlbbhlkbhegegaaPl1
namespace Go.Proofs.Ytlbbhlkbhegegaa
open Go.RowKit

def relAt (rs : List MGate) (k : Nat) : MGate := rs.getD k ⟨0, 0⟩
theorem relAt_of {rs : List MGate} {k : Nat} {r : MGate} (h : rs[k]? = some r) : relAt rs k = r := by
  unfold relAt; rw [List.getD_eq_getElem?_getD, h]; rfl
def waitsB (E : Nat → Int) (rs : List MGate) (now : Int) (k : Nat) : Bool := decide (E k < 0) && decide ((relAt rs k).delay ≤ now)
def laterB (E : Nat → Int) (rs : List MGate) (now : Int) (k : Nat) : Bool := decide (E k < 0) && decide (now < (relAt rs k).delay)
/-- which of the first k is sent next -/
def pickTo (l : List MFrame) (rs : List MGate) (E : Nat → Int) (now : Int) : Nat → Option Nat
  | 0 => none
  | k + 1 => match pickTo l rs E now k with
    | none => if waitsB E rs now k = true then some k else none
    | some j => if (waitsB E rs now k && beforeB l (relAt rs k) (relAt rs j)) = true then some k else some j
/-- the first time of the first k that is still to come -/
def soonTo (rs : List MGate) (E : Nat → Int) (now : Int) : Nat → Option Int
  | 0 => none
  | k + 1 => if laterB E rs now k = true then (match soonTo rs E now k with
    | none => some (relAt rs k).delay
    | some s => if (relAt rs k).delay < s then some (relAt rs k).delay else some s) else soonTo rs E now k
def sizeOf_ (l : List MFrame) (r : MGate) : Int := (l.getD r.rate.toNat ⟨0, 0, 0, 0, 0⟩).size
def updE (R : Nat → Int) (i : Nat) (x : Int) (k : Nat) : Int := if k = i then x else R k
def playGo (l : List MFrame) (rs : List MGate) : Nat → Int → (Nat → Int) → (Nat → Int)
  | 0, _, E => E
  | u + 1, now, E =>
    let t := match pickTo l rs E now rs.length with | some _ => now | none => (soonTo rs E now rs.length).getD now
    match pickTo l rs E t rs.length with
    | none => E
    | some i => playGo l rs u (t + sizeOf_ l (relAt rs i)) (updE E i (t + sizeOf_ l (relAt rs i)))
def playS (l : List MFrame) (rs : List MGate) : Nat → Int := playGo l rs rs.length 0 fun _ => -1

theorem pickTo_some {l : List MFrame} {rs : List MGate} {E : Nat → Int} {now : Int} : ∀ {k j : Nat}, pickTo l rs E now k = some j → j < k ∧ waitsB E rs now j = true
  | 0, j, h => by cases h
  | k + 1, j, h => by
    rw [pickTo] at h
    rcases hp : pickTo l rs E now k with _ | i
    · rw [hp] at h
      by_cases hw : waitsB E rs now k = true
      · simp only [if_pos hw] at h
        injection h with h
        subst h
        exact ⟨by omega, hw⟩
      · simp only [if_neg hw] at h; cases h
    · rw [hp] at h
      have hi := pickTo_some hp
      by_cases hw : (waitsB E rs now k && beforeB l (relAt rs k) (relAt rs i)) = true
      · simp only [if_pos hw] at h
        injection h with h
        subst h
        rw [Bool.and_eq_true] at hw
        exact ⟨by omega, hw.1⟩
      · simp only [if_neg hw] at h
        injection h with h
        subst h
        exact ⟨by omega, hi.2⟩
theorem pickTo_none {l : List MFrame} {rs : List MGate} {E : Nat → Int} {now : Int} : ∀ {k : Nat}, pickTo l rs E now k = none → ∀ j, j < k → waitsB E rs now j = false
  | 0, _, j, hj => by omega
  | k + 1, h, j, hj => by
    rw [pickTo] at h
    rcases hp : pickTo l rs E now k with _ | i
    · rw [hp] at h
      by_cases hw : waitsB E rs now k = true
      · simp only [if_pos hw] at h; cases h
      · by_cases e : j = k
        · subst e; simpa using hw
        · exact pickTo_none hp j (by omega)
    · rw [hp] at h
      by_cases hw : (waitsB E rs now k && beforeB l (relAt rs k) (relAt rs i)) = true
      · simp only [if_pos hw] at h; cases h
      · simp only [if_neg hw] at h; cases h
theorem soonTo_some {rs : List MGate} {E : Nat → Int} {now : Int} : ∀ {k : Nat} {s : Int}, soonTo rs E now k = some s → ∃ j, j < k ∧ laterB E rs now j = true ∧ (relAt rs j).delay = s
  | 0, s, h => by cases h
  | k + 1, s, h => by
    rw [soonTo] at h
    by_cases hw : laterB E rs now k = true
    · rw [if_pos hw] at h
      rcases hp : soonTo rs E now k with _ | s0
      · rw [hp] at h
        injection h with h
        exact ⟨k, by omega, hw, h⟩
      · rw [hp] at h
        by_cases hd : (relAt rs k).delay < s0
        · simp only [if_pos hd] at h
          injection h with h
          exact ⟨k, by omega, hw, h⟩
        · simp only [if_neg hd] at h
          injection h with h
          subst h
          obtain ⟨j, h1, h2⟩ := soonTo_some hp
          exact ⟨j, by omega, h2⟩
    · rw [if_neg hw] at h
      obtain ⟨j, h1, h2⟩ := soonTo_some h
      exact ⟨j, by omega, h2⟩
theorem soonTo_none {rs : List MGate} {E : Nat → Int} {now : Int} : ∀ {k : Nat}, soonTo rs E now k = none → ∀ j, j < k → laterB E rs now j = false
  | 0, _, j, hj => by omega
  | k + 1, h, j, hj => by
    rw [soonTo] at h
    by_cases hw : laterB E rs now k = true
    · rw [if_pos hw] at h
      rcases hp : soonTo rs E now k with _ | s0
      · rw [hp] at h; cases h
      · rw [hp] at h
        by_cases hd : (relAt rs k).delay < s0
        · simp only [if_pos hd] at h; cases h
        · simp only [if_neg hd] at h; cases h
    · rw [if_neg hw] at h
      by_cases e : j = k
      · subst e; simpa using hw
      · exact soonTo_none h j (by omega)
theorem pickTo_congr {l : List MFrame} {rs : List MGate} {E F : Nat → Int} {now : Int} : ∀ {k : Nat}, (∀ j, j < k → E j = F j) → pickTo l rs E now k = pickTo l rs F now k
  | 0, _ => rfl
  | k + 1, h => by
    have hw : waitsB E rs now k = waitsB F rs now k := by unfold waitsB; rw [h k (by omega)]
    rw [pickTo, pickTo, pickTo_congr (fun j hj => h j (by omega)), hw]
theorem pick_soon {l : List MFrame} {rs : List MGate} {E : Nat → Int} {now s : Int} {n : Nat} (hs : soonTo rs E now n = some s) : pickTo l rs E s n ≠ none := fun hn => by
  obtain ⟨j, hj, hl, hd⟩ := soonTo_some hs
  have h1 := pickTo_none hn j hj
  unfold waitsB at h1
  unfold laterB at hl
  rw [Bool.and_eq_true] at hl
  rw [hl.1, hd] at h1
  simp at h1
theorem playGo_some {l : List MFrame} {rs : List MGate} {E : Nat → Int} {now : Int} {u i : Nat} (h : pickTo l rs E now rs.length = some i) : playGo l rs (u + 1) now E = playGo l rs u (now + sizeOf_ l (relAt rs i)) (updE E i (now + sizeOf_ l (relAt rs i))) := by
  rw [playGo]
  simp only [h]
theorem playGo_wait {l : List MFrame} {rs : List MGate} {E : Nat → Int} {now s : Int} {u : Nat} (h : pickTo l rs E now rs.length = none) (hs : soonTo rs E now rs.length = some s) : playGo l rs (u + 1) now E = playGo l rs (u + 1) s E := by
  rcases hp : pickTo l rs E s rs.length with _ | i
  · exact absurd hp (pick_soon hs)
  · rw [playGo_some hp, playGo]
    simp only [h, hs, Option.getD_some, hp]
theorem playGo_end {l : List MFrame} {rs : List MGate} {E : Nat → Int} {now : Int} {u : Nat} (h : pickTo l rs E now rs.length = none) (hs : soonTo rs E now rs.length = none) : playGo l rs u now E = E := by
  cases u with
  | zero => rfl
  | succ u =>
    rw [playGo]
    simp only [h, hs, Option.getD_none]

/-! ### how many have no end yet -/
def cntN (R : Nat → Int) : Nat → Nat
  | 0 => 0
  | n + 1 => cntN R n + if R n < 0 then 1 else 0
theorem cntN_le {R : Nat → Int} : ∀ n, cntN R n ≤ n
  | 0 => Nat.le_refl _
  | n + 1 => by
    rw [cntN]
    have := cntN_le (R := R) n
    by_cases h : R n < 0
    · rw [if_pos h]; omega
    · rw [if_neg h]; omega
theorem cntN_congr {R F : Nat → Int} : ∀ n, (∀ k, k < n → R k = F k) → cntN R n = cntN F n
  | 0, _ => rfl
  | n + 1, h => by rw [cntN, cntN, cntN_congr n (fun k hk => h k (by omega)), h n (by omega)]
theorem cntN_upd {R : Nat → Int} {i : Nat} {x : Int} (hx : 0 ≤ x) (hi : R i < 0) : ∀ n, cntN R n = cntN (updE R i x) n + if i < n then 1 else 0
  | 0 => by simp [cntN]
  | n + 1 => by
    rw [cntN, cntN, cntN_upd hx hi n]
    by_cases e : n = i
    · subst e
      have h1 : updE R n x n = x := by unfold updE; rw [if_pos rfl]
      rw [h1, if_pos hi, if_neg (by omega), if_neg (by omega), if_pos (by omega)]
    · have h1 : updE R i x n = R n := by unfold updE; rw [if_neg e]
      rw [h1]
      by_cases h2 : i < n
      · rw [if_pos h2, if_pos (show i < n + 1 by omega)]; omega
      · rw [if_neg h2, if_neg (show ¬ i < n + 1 by omega)]; omega
theorem cntN_all (n : Nat) : cntN (fun _ => -1) n = n := by
  induction n with
  | zero => rfl
  | succ n ih => rw [cntN, ih]; simp
theorem cntN_pos {R : Nat → Int} {i : Nat} : ∀ {n}, i < n → R i < 0 → 0 < cntN R n
  | 0, h, _ => by omega
  | n + 1, h, hi => by
    rw [cntN]
    by_cases e : i = n
    · subst e; rw [if_pos hi]; omega
    · have := cntN_pos (n := n) (by omega) hi
      omega
/-- what becomes less in each round of a play -/
def muP (l : List MFrame) (rs : List MGate) (E : Nat → Int) (now : Int) : Nat := 2 * cntN E rs.length + if pickTo l rs E now rs.length = none then 1 else 0
theorem muP_congr {l : List MFrame} {rs : List MGate} {E F : Nat → Int} {now : Int} (h : ∀ k, k < rs.length → E k = F k) : muP l rs E now = muP l rs F now := by
  unfold muP; rw [cntN_congr _ h, pickTo_congr h]
theorem muP_sent {l : List MFrame} {rs : List MGate} {E : Nat → Int} {now x t : Int} {i : Nat} (hi : i < rs.length) (hn : E i < 0) (hx : 0 ≤ x) : muP l rs (updE E i x) t < muP l rs E now := by
  unfold muP
  have := cntN_upd hx hn rs.length
  rw [if_pos hi] at this
  by_cases h1 : pickTo l rs (updE E i x) t rs.length = none
  · rw [if_pos h1]; omega
  · rw [if_neg h1]; omega
theorem muP_wait {l : List MFrame} {rs : List MGate} {E : Nat → Int} {now s : Int} (h : pickTo l rs E now rs.length = none) (hs : soonTo rs E now rs.length = some s) : muP l rs E s < muP l rs E now := by
  unfold muP
  rw [if_pos h, if_neg (pick_soon hs)]
  omega
def cellI (w : World) (g k : Nat) : Int := match w.cell? ⟨g, k, none⟩ with
  | some (.int _ x) => x
  | _ => 0
end Go.Proofs.Ytlbbhlkbhegegaa
