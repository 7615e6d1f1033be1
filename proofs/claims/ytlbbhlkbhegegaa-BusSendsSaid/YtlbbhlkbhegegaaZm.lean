/- Plain: the theorem of the nets; the walk of much. -/
import Derived.Test.YtlbbhlkbhegegaaYa
import Derived.Test.YtlbbhlkbhegegaaZa
import Derived.Test.YtlbbhlkbhegegaaYh
import Derived.Test.YtlbbhlkbhegegaaN9
/- Plain: the bytes of a flow at a step of its path: how many come, go and stay, tick by tick. -/
namespace Go.Proofs.Ytlbbhlkbhegegaa
open Go.RowKit

def isB (i h : Nat) (x : MPkt) : Bool := decide (x.flow = (i : Int)) && decide (x.hop = (h : Int))
theorem isB_iff {i h : Nat} {x : MPkt} : isB i h x = true ↔ x.flow = i ∧ x.hop = h := by unfold isB; simp
/-- the bytes of a flow at a step in a list -/
def amt (i h : Nat) (l : List MPkt) : Int := totP (l.filter (isB i h))
theorem amt_nil (i h : Nat) : amt i h [] = 0 := rfl
theorem amt_app (i h : Nat) (a b : List MPkt) : amt i h (a ++ b) = amt i h a + amt i h b := by unfold amt; rw [List.filter_append, totP_app]
theorem amt_cons (i h : Nat) (x : MPkt) (l : List MPkt) : amt i h (x :: l) = (if isB i h x = true then x.many else 0) + amt i h l := by
  unfold amt
  rw [List.filter_cons]
  split
  · unfold totP; simp
  · omega
theorem amt_perm (i h : Nat) {a b : List MPkt} (p : a.Perm b) : amt i h a = amt i h b := totP_perm (p.filter _)
theorem amt_pos (i h : Nat) {l : List MPkt} (hl : ∀ x ∈ l, 1 ≤ x.many) : 0 ≤ amt i h l := by
  have := len_tot (l := l.filter (isB i h)) fun x hx => hl x (List.mem_filter.1 hx).1
  unfold amt; omega
theorem amt_none (i h : Nat) {l : List MPkt} (hl : ∀ x ∈ l, ¬ (x.flow = i ∧ x.hop = h)) : amt i h l = 0 := by
  unfold amt
  rw [List.filter_eq_nil_iff.2 fun x hx => by rw [isB_iff]; exact hl x hx]
  rfl
/-- a part of a list that holds all that counts -/
theorem amt_filter (i h : Nat) {l : List MPkt} {p : MPkt → Bool} (hp : ∀ x ∈ l, x.flow = i → x.hop = h → p x = true) : amt i h (l.filter p) = amt i h l := by
  unfold amt
  rw [List.filter_filter]
  congr 1
  refine List.filter_congr fun x hx => ?_
  rcases hb : isB i h x
  · rfl
  · have := isB_iff.1 hb
    rw [hp x hx this.1 this.2]; rfl
theorem amt_byF {i h k : Nat} {l : List MPkt} (hl : ∀ x ∈ l, 0 ≤ x.flow ∧ x.flow < k) : amt i h (byF k l) = amt i h l := amt_perm i h (stq_byF hl).perm
/-! ### what a gate sends -/
theorem sendL_amt (i h : Nat) : ∀ (l : List MPkt) (c : Int), amt i (h + 1) (sendL c l).1 + amt i h (sendL c l).2 = amt i h l
  | [], c => by simp [sendL, amt_nil]
  | x :: l, c => by
    have e : ∀ y : MPkt, isB i (h + 1) (hopped y) = isB i h y := fun y => by
      unfold isB hopped
      rw [Bool.eq_iff_iff]
      simp only [Bool.and_eq_true, decide_eq_true_eq]
      omega
    rw [sendL]
    by_cases h1 : c ≤ 0
    · rw [if_pos h1]; simp [amt_nil]
    · rw [if_neg h1]
      by_cases h2 : x.many ≤ c
      · rw [if_pos h2]
        have := sendL_amt i h l (c - x.many)
        rw [amt_cons, amt_cons, e]
        rcases isB i h x
        · simp only [Bool.false_eq_true, if_false]; omega
        · simp only [if_true]
          show x.many + _ + _ = _
          omega
      · rw [if_neg h2, amt_cons, amt_cons, amt_cons]
        rw [show isB i (h + 1) { hopped x with many := c } = isB i h x from e x, show isB i h { x with many := x.many - c } = isB i h x from rfl, amt_nil]
        rcases isB i h x
        · simp only [Bool.false_eq_true, if_false]; omega
        · simp only [if_true]
          show c + 0 + (x.many - c + _) = _
          omega
theorem sendL_rest : ∀ (l : List MPkt) (c : Int), (∀ x ∈ l, 1 ≤ x.many) → 0 ≤ c → (totP l ≤ c → (sendL c l).2 = []) ∧ (c ≤ totP l → totP (sendL c l).2 = totP l - c)
  | [], c, _, _ => ⟨fun _ => rfl, fun h => by show (0 : Int) = 0 - c; have : totP ([] : List MPkt) = 0 := rfl; omega⟩
  | x :: l, c, h, hc => by
    have hx := h x (by simp)
    have hl : ∀ y ∈ l, 1 ≤ y.many := fun y hy => h y (by simp [hy])
    have hp := len_tot hl
    have e : totP (x :: l) = x.many + totP l := by unfold totP; simp
    rw [sendL, e]
    by_cases h1 : c ≤ 0
    · rw [if_pos h1]
      exact ⟨fun h2 => by omega, fun h2 => by rw [e]; omega⟩
    · rw [if_neg h1]
      by_cases h2 : x.many ≤ c
      · rw [if_pos h2]
        have ih := sendL_rest l (c - x.many) hl (by omega)
        exact ⟨fun h3 => ih.1 (by omega), fun h3 => by rw [ih.2 (by omega)]; omega⟩
      · rw [if_neg h2]
        refine ⟨fun h3 => by omega, fun h3 => ?_⟩
        show totP ({ x with many := x.many - c } :: l) = _
        unfold totP at e ⊢
        simp only [List.map_cons, List.sum_cons]
        omega
/-- what of a list stays -/
structure PartOf (l l' : List MPkt) : Prop where
  le : ∀ i h, amt i h l' ≤ amt i h l
  mem : ∀ y ∈ l', 1 ≤ y.many ∧ ∃ x ∈ l, y.flow = x.flow ∧ y.hop = x.hop ∧ y.born = x.born
theorem PartOf.refl {l : List MPkt} (h : ∀ x ∈ l, 1 ≤ x.many) : PartOf l l := ⟨fun _ _ => Int.le_refl _, fun y hy => ⟨h y hy, y, hy, rfl, rfl, rfl⟩⟩
theorem PartOf.nil {l : List MPkt} (h : ∀ x ∈ l, 1 ≤ x.many) : PartOf l [] := ⟨fun i j => by rw [amt_nil]; exact amt_pos i j h, fun y hy => by cases hy⟩
theorem sendL_part : ∀ (l : List MPkt) (c : Int), (∀ x ∈ l, 1 ≤ x.many) → PartOf l (sendL c l).2
  | [], c, h => PartOf.refl h
  | x :: l, c, h => by
    have hx := h x (by simp)
    have hl : ∀ y ∈ l, 1 ≤ y.many := fun y hy => h y (by simp [hy])
    rw [sendL]
    by_cases h1 : c ≤ 0
    · rw [if_pos h1]; exact .refl h
    · rw [if_neg h1]
      by_cases h2 : x.many ≤ c
      · rw [if_pos h2]
        have ih := sendL_part l (c - x.many) hl
        refine ⟨fun i j => ?_, fun y hy => ?_⟩
        · have := ih.le i j
          show amt i j (sendL (c - x.many) l).2 ≤ _
          rw [amt_cons]
          split <;> omega
        · obtain ⟨h3, z, hz, h4⟩ := ih.mem y hy
          exact ⟨h3, z, by simp [hz], h4⟩
      · rw [if_neg h2]
        refine ⟨fun i j => ?_, fun y hy => ?_⟩
        · rw [amt_cons, amt_cons, show isB i j { x with many := x.many - c } = isB i j x from rfl]
          rcases isB i j x
          · simp only [Bool.false_eq_true, if_false]; omega
          · simp only [if_true]
            show x.many - c + _ ≤ _
            omega
        · rcases List.mem_cons.1 hy with rfl | hy
          · exact ⟨by show 1 ≤ x.many - c; omega, x, by simp, rfl, rfl, rfl⟩
          · exact ⟨hl y hy, y, by simp [hy], rfl, rfl, rfl⟩
theorem sendL_split : ∀ (X Y : List MPkt) (c : Int), (∀ x ∈ X, 1 ≤ x.many) → (∀ y ∈ Y, 1 ≤ y.many) → ∃ Y', (sendL c (X ++ Y)).2 = (sendL c X).2 ++ Y' ∧ PartOf Y Y'
  | [], Y, c, _, hY => ⟨(sendL c Y).2, by simp [sendL], sendL_part Y c hY⟩
  | x :: X, Y, c, hX, hY => by
    rw [List.cons_append, sendL, sendL]
    by_cases h1 : c ≤ 0
    · rw [if_pos h1, if_pos h1]; exact ⟨Y, rfl, .refl hY⟩
    · rw [if_neg h1, if_neg h1]
      by_cases h2 : x.many ≤ c
      · rw [if_pos h2, if_pos h2]
        exact sendL_split X Y (c - x.many) (fun z hz => hX z (by simp [hz])) hY
      · rw [if_neg h2, if_neg h2]; exact ⟨Y, rfl, .refl hY⟩
theorem sendL_gone : ∀ (l : List MPkt) (c : Int), ∀ y ∈ (sendL c l).1, ∃ x ∈ l, y.flow = x.flow ∧ y.hop = x.hop + 1 ∧ y.born = x.born
  | [], c, y, hy => by simp [sendL] at hy
  | x :: l, c, y, hy => by
    rw [sendL] at hy
    by_cases h1 : c ≤ 0
    · rw [if_pos h1] at hy; exact absurd hy (by simp)
    · rw [if_neg h1] at hy
      by_cases h2 : x.many ≤ c
      · rw [if_pos h2] at hy
        rcases List.mem_cons.1 hy with rfl | hy
        · exact ⟨x, by simp, rfl, rfl, rfl⟩
        · obtain ⟨z, hz, h3⟩ := sendL_gone l (c - x.many) y hy
          exact ⟨z, by simp [hz], h3⟩
      · rw [if_neg h2] at hy
        obtain rfl := List.mem_singleton.1 hy
        exact ⟨x, by simp, rfl, rfl, rfl⟩
/-! ### a tick -/
def atG (n : MNet) (g : Nat) (x : MPkt) : Bool := decide (x.hop ≠ ((pathOf n x).length : Int)) && decide (g = hopG n x)
theorem come_fold (n : MNet) (t : Int) : ∀ (l : List MPkt) (s : Mot), (l.foldl (arr n t) s).way = s.way ∧ (∀ g, (l.foldl (arr n t) s).lines g = s.lines g ++ l.filter (atG n g)) ∧
    ∀ i, (l.foldl (arr n t) s).out i = s.out i ∨ (s.out i ≤ (l.foldl (arr n t) s).out i ∧ ∃ x ∈ l, x.flow.toNat = i ∧ x.hop = ((pathOf n x).length : Int) ∧ (l.foldl (arr n t) s).out i = t - x.born)
  | [], s => ⟨rfl, fun g => by simp, fun i => .inl rfl⟩
  | x :: l, s => by
    rw [List.foldl_cons]
    obtain ⟨h1, h2, h3⟩ := come_fold n t l (arr n t s x)
    have e1 : (arr n t s x).way = s.way := by unfold arr; split <;> rfl
    have e2 : ∀ g, (arr n t s x).lines g = s.lines g ++ if atG n g x = true then [x] else [] := fun g => by
      unfold arr atG
      by_cases h : x.hop = ((pathOf n x).length : Int)
      · rw [if_pos h]; simp [h]
      · rw [if_neg h]
        show (if g = hopG n x then s.lines g ++ [x] else s.lines g) = _
        by_cases hg : g = hopG n x
        · rw [if_pos hg, if_pos (by simp [h, hg])]
        · rw [if_neg hg, if_neg (by simp [hg]), List.append_nil]
    have e3 : ∀ i, (arr n t s x).out i = s.out i ∨ (s.out i ≤ (arr n t s x).out i ∧ x.flow.toNat = i ∧ x.hop = ((pathOf n x).length : Int) ∧ (arr n t s x).out i = t - x.born) := fun i => by
      unfold arr
      by_cases h : x.hop = ((pathOf n x).length : Int)
      · rw [if_pos h]
        show (if i = x.flow.toNat then maxZ (s.out i) (t - x.born) else s.out i) = s.out i ∨ (s.out i ≤ (if i = x.flow.toNat then maxZ (s.out i) (t - x.born) else s.out i) ∧ _ ∧ _ ∧ (if i = x.flow.toNat then maxZ (s.out i) (t - x.born) else s.out i) = _)
        by_cases hi : i = x.flow.toNat
        · rw [if_pos hi]
          unfold maxZ
          by_cases hm : s.out i < t - x.born
          · rw [if_pos hm]; exact .inr ⟨by omega, hi.symm, h, rfl⟩
          · rw [if_neg hm]; exact .inl rfl
        · rw [if_neg hi]; exact .inl rfl
      · rw [if_neg h]; exact .inl rfl
    refine ⟨h1.trans e1, fun g => ?_, fun i => ?_⟩
    · rw [h2, e2, List.filter_cons, List.append_assoc]
      split <;> simp
    · rcases h3 i with h3 | ⟨h3, y, hy, h4⟩
      · rcases e3 i with e3 | ⟨e3, h5, h6, h7⟩
        · exact .inl (h3.trans e3)
        · exact .inr ⟨by omega, x, by simp, h5, h6, h3.trans h7⟩
      · refine .inr ⟨?_, y, by simp [hy], h4⟩
        rcases e3 i with e3 | ⟨e3, _⟩ <;> omega
theorem atW_appZ (u : Int) (a b : List (Int × MPkt)) : atW u (a ++ b) = atW u a ++ atW u b := by unfold atW; rw [List.filter_append, List.map_append]
theorem atW_at (u v : Int) (l : List MPkt) : atW u (l.map fun x => (v, x)) = if v = u then l else [] := by
  unfold atW
  by_cases h : v = u
  · rw [if_pos h, List.filter_eq_self.2 fun p hp => by
      obtain ⟨x, _, rfl⟩ := List.mem_map.1 hp
      simpa using h, List.map_map]
    exact List.map_id' l
  · rw [if_neg h, List.filter_eq_nil_iff.2 fun p hp => by
      obtain ⟨x, _, rfl⟩ := List.mem_map.1 hp
      simpa using h]
    rfl
theorem atW_goneZ {t u : Int} (h : u ≠ t) (s : Mot) : atW u (gone t s).way = atW u s.way := by
  unfold atW gone
  show ((s.way.filter _).filter _).map _ = _
  rw [List.filter_filter]
  congr 1
  refine List.filter_congr fun p _ => ?_
  by_cases e : p.1 = u
  · simp [e, h]
  · simp [e]
theorem sends_lines (n : MNet) (t : Int) (s : Mot) : ∀ k g, (sendsM n t s k).lines g = if g < k then (sendL (gateAt n g).rate (s.lines g)).2 else s.lines g
  | 0, g => rfl
  | k + 1, g => by
    rw [sendsM_succ]
    show (if g = k then (sendL (gateAt n k).rate ((sendsM n t s k).lines k)).2 else (sendsM n t s k).lines g) = _
    rw [sends_lines n t s k k, if_neg (Nat.lt_irrefl _)]
    by_cases h : g = k
    · subst h; rw [if_pos rfl, if_pos (Nat.lt_succ_self _)]
    · rw [if_neg h, sends_lines n t s k g]
      by_cases h2 : g < k
      · rw [if_pos h2, if_pos (by omega)]
      · rw [if_neg h2, if_neg (by omega)]
theorem sends_out (n : MNet) (t : Int) (s : Mot) : ∀ k, (sendsM n t s k).out = s.out
  | 0 => rfl
  | k + 1 => by rw [sendsM_succ]; exact sends_out n t s k
theorem sends_amt {n : MNet} {t : Int} {s : Mot} (hs : ∀ g, ∀ x ∈ s.lines g, AtG n g x) {i h : Nat} (hh : h < (flowAt n i).path.length) (u : Int) : ∀ k,
    amt i (h + 1) (atW u (sendsM n t s k).way) = amt i (h + 1) (atW u s.way) + if gAt n i h < k ∧ t + (gateAt n (gAt n i h)).delay = u then amt i (h + 1) (sendL (gateAt n (gAt n i h)).rate (s.lines (gAt n i h))).1 else 0
  | 0 => by rw [if_neg (by omega)]; show _ = _ + 0; rw [Int.add_zero]; rfl
  | k + 1 => by
    have ih := sends_amt (t := t) hs hh u k
    rw [sendsM_succ]
    show amt i (h + 1) (atW u ((sendsM n t s k).way ++ (sendL (gateAt n k).rate ((sendsM n t s k).lines k)).1.map fun x => (t + (gateAt n k).delay, x))) = _
    rw [atW_appZ, amt_app, ih, atW_at, sends_lines n t s k k, if_neg (Nat.lt_irrefl _)]
    by_cases hg : gAt n i h = k
    · rw [if_neg (c := gAt n i h < k ∧ _) (by omega), hg]
      by_cases hu : t + (gateAt n k).delay = u
      · rw [if_pos hu, if_pos ⟨Nat.lt_succ_self _, hu⟩]; omega
      · rw [if_neg hu, if_neg (fun h => hu h.2), amt_nil]; omega
    · have h0 : amt i (h + 1) (if t + (gateAt n k).delay = u then (sendL (gateAt n k).rate (s.lines k)).1 else []) = 0 := by
        split
        · refine amt_none _ _ fun y hy hc => hg ?_
          obtain ⟨x, hx, h1, h2, _⟩ := sendL_gone _ _ y hy
          have h3 := hs k x hx
          rw [← h3.2.2]
          unfold gAt hopG pathOf
          rw [show x.flow.toNat = i by omega, show x.hop.toNat = h by omega]
        · rfl
      rw [h0]
      by_cases hl : gAt n i h < k ∧ t + (gateAt n (gAt n i h)).delay = u
      · rw [if_pos hl, if_pos ⟨by omega, hl.2⟩]; omega
      · rw [if_neg hl, if_neg (fun h => hl ⟨by omega, h.2⟩)]; omega
theorem sends_amt0 {n : MNet} {t : Int} {s : Mot} (hs : ∀ g, ∀ x ∈ s.lines g, AtG n g x) (i : Nat) (u : Int) : ∀ k, amt i 0 (atW u (sendsM n t s k).way) = amt i 0 (atW u s.way)
  | 0 => rfl
  | k + 1 => by
    rw [sendsM_succ]
    show amt i 0 (atW u ((sendsM n t s k).way ++ (sendL (gateAt n k).rate ((sendsM n t s k).lines k)).1.map fun x => (t + (gateAt n k).delay, x))) = _
    rw [atW_appZ, amt_app, sends_amt0 (t := t) hs i u k, atW_at, sends_lines n t s k k, if_neg (Nat.lt_irrefl _)]
    have h0 : amt i 0 (if t + (gateAt n k).delay = u then (sendL (gateAt n k).rate (s.lines k)).1 else []) = 0 := by
      split
      · refine amt_none _ _ fun y hy hc => ?_
        obtain ⟨x, hx, h1, h2, _⟩ := sendL_gone _ _ y hy
        have h3 := (hs k x hx).1.hop0
        omega
      · rfl
    rw [h0]; omega
theorem sends_mem {n : MNet} {t : Int} {s : Mot} : ∀ k, ∀ p ∈ (sendsM n t s k).way, p ∈ s.way ∨ ∃ g x, x ∈ s.lines g ∧ p.1 = t + (gateAt n (g : Nat)).delay ∧ p.2.flow = x.flow ∧ p.2.hop = x.hop + 1 ∧ p.2.born = x.born
  | 0, p, hp => .inl hp
  | k + 1, p, hp => by
    rw [sendsM_succ] at hp
    have hp : p ∈ (sendsM n t s k).way ++ (sendL (gateAt n k).rate ((sendsM n t s k).lines k)).1.map fun x => (t + (gateAt n k).delay, x) := hp
    rcases List.mem_append.1 hp with hp | hp
    · exact sends_mem k p hp
    · rw [sends_lines n t s k k, if_neg (Nat.lt_irrefl _)] at hp
      obtain ⟨y, hy, rfl⟩ := List.mem_map.1 hp
      obtain ⟨x, hx, h⟩ := sendL_gone _ _ y hy
      exact .inr ⟨k, x, hx, rfl, h⟩
/-! ### the run -/
def stM (n : MNet) (tr : List (List Int)) : Nat → Mot
  | 0 => startM tr
  | k + 1 => tickM n k (stM n tr k)
theorem runM_at (n : MNet) (tr : List (List Int)) : ∀ (k : Nat) (j : Nat) (s : Mot), j + k = 10001 → runM n k (stM n tr j) = some s → ∃ m, m ≤ 10001 ∧ s = stM n tr m
  | 0, j, s, hj, h => by
    rw [runM] at h
    split at h
    · cases h
    · injection h with h; exact ⟨j, by omega, h.symm⟩
  | k + 1, j, s, hj, h => by
    rw [runM] at h
    split at h
    · refine runM_at n tr k (j + 1) s (by omega) ?_
      rw [stM, show (j : Int) = 10000 - (k : Int) by omega]
      exact h
    · injection h with h; exact ⟨j, by omega, h.symm⟩
/-- the run of a valid net with lawful traffic -/
structure RunOk (n : MNet) (tr : List (List Int)) : Prop where
  val : netB n = true
  law : tr.all lawfulB = true
  len : tr.length = n.flows.length
  most : totW (startW tr tr.length) ≤ 6000
variable {n : MNet} {tr : List (List Int)}
theorem RunOk.inv (h : RunOk n tr) : ∀ k : Nat, k ≤ 10001 → InvM n k (stM n tr k)
  | 0, _ => startM_inv h.law h.len h.most
  | k + 1, hk => by
    have := (h.inv k (by omega)).tick h.val (by omega) (by omega)
    rw [stM]
    exact this
/-- what comes in a tick -/
def inM (n : MNet) (tr : List (List Int)) (k : Nat) : List MPkt := atW k (stM n tr k).way
def cameM (n : MNet) (tr : List (List Int)) (k : Nat) : Mot := comeM n k (stM n tr k)
theorem RunOk.came (h : RunOk n tr) {k : Nat} (hk : k ≤ 10000) : InvM n (k + 1) (cameM n tr k) := (h.inv k (by omega)).come h.val (by omega) (by omega)
theorem cameM_lines (n : MNet) (tr : List (List Int)) (k g : Nat) : (cameM n tr k).lines g = (stM n tr k).lines g ++ (byF n.flows.length (inM n tr k)).filter (atG n g) := (come_fold n k _ _).2.1 g
theorem cameM_way (n : MNet) (tr : List (List Int)) (k : Nat) : (cameM n tr k).way = (gone k (stM n tr k)).way := (come_fold n k _ _).1
theorem RunOk.flows (h : RunOk n tr) {k : Nat} (hk : k ≤ 10001) : ∀ x ∈ inM n tr k, 0 ≤ x.flow ∧ x.flow < n.flows.length := atW_flow (h.inv k hk)
theorem RunOk.ins (h : RunOk n tr) {k : Nat} (hk : k ≤ 10001) : ∀ x ∈ inM n tr k, PkOk n x := fun _ hx => ((h.inv k hk).way _ (mem_atW hx)).2.2
theorem RunOk.next (_ : RunOk n tr) {k : Nat} (_ : k ≤ 10000) (g : Nat) (hg : g < n.gates.length) : (stM n tr (k + 1)).lines g = (sendL (gateAt n g).rate ((cameM n tr k).lines g)).2 := by
  rw [stM]
  show (sendsM n k (cameM n tr k) n.gates.length).lines g = _
  rw [sends_lines, if_pos hg]
/-- the bytes that have come -/
def CA (n : MNet) (tr : List (List Int)) (i h : Nat) : Nat → Int
  | 0 => 0
  | k + 1 => CA n tr i h k + amt i h (inM n tr k)
/-- the bytes that have gone -/
def CD (n : MNet) (tr : List (List Int)) (i h k : Nat) : Int := CA n tr i h k - amt i h ((stM n tr k).lines (gAt n i h))
theorem RunOk.mono (h : RunOk n tr) (i j : Nat) : ∀ (d k : Nat), k + d ≤ 10001 → CA n tr i j k ≤ CA n tr i j (k + d)
  | 0, k, _ => Int.le_refl _
  | d + 1, k, hk => by
    have h1 := h.mono i j d k (by omega)
    have h2 := amt_pos i j (l := inM n tr (k + d)) fun x hx => (h.ins (by omega) x hx).many1
    show _ ≤ CA n tr i j (k + d) + amt i j (inM n tr (k + d))
    omega
theorem RunOk.mono' (h : RunOk n tr) (i j : Nat) {a b : Nat} (hab : a ≤ b) (hb : b ≤ 10001) : CA n tr i j a ≤ CA n tr i j b := by
  have := h.mono i j (b - a) a (by omega)
  rwa [show a + (b - a) = b by omega] at this
theorem hop_isG {n : MNet} {i h : Nat} {x : MPkt} (h1 : x.flow = i) (h2 : x.hop = h) : hopG n x = gAt n i h ∧ pathOf n x = (flowAt n i).path := by
  unfold hopG gAt pathOf
  rw [h1, h2]
  simp
theorem RunOk.came_amt (h : RunOk n tr) {k : Nat} (hk : k ≤ 10001) {i j : Nat} (hj : j < (flowAt n i).path.length) : amt i j ((cameM n tr k).lines (gAt n i j)) = amt i j ((stM n tr k).lines (gAt n i j)) + amt i j (inM n tr k) := by
  rw [cameM_lines, amt_app, amt_filter, amt_byF (h.flows hk)]
  intro x hx h1 h2
  have := hop_isG (n := n) h1 h2
  unfold atG
  rw [this.1, this.2, h2, decide_eq_true (by omega), decide_eq_true rfl]
  rfl
/-- what goes in a tick -/
theorem RunOk.went (h : RunOk n tr) {k : Nat} (hk : k ≤ 10000) {i j : Nat} (hi : i < n.flows.length) (hj : j < (flowAt n i).path.length) : amt i (j + 1) (sendL (gateAt n (gAt n i j)).rate ((cameM n tr k).lines (gAt n i j))).1 = CD n tr i j (k + 1) - CD n tr i j k := by
  have h1 := sendL_amt i j ((cameM n tr k).lines (gAt n i j)) (gateAt n (gAt n i j)).rate
  rw [← h.next hk _ (gAt_ok h.val hi hj).1, h.came_amt (by omega) hj] at h1
  unfold CD
  rw [CA]
  omega
/-- what is on its way -/
theorem RunOk.way (h : RunOk n tr) {i j : Nat} (hi : i < n.flows.length) (hj : j < (flowAt n i).path.length) {d : Nat} (hd : (gateAt n (gAt n i j)).delay = (d : Int)) : ∀ k : Nat, k ≤ 10001 → ∀ u : Nat, k ≤ u →
    amt i (j + 1) (atW u (stM n tr k).way) = if d ≤ u ∧ u < k + d then CD n tr i j (u - d + 1) - CD n tr i j (u - d) else 0
  | 0, _, u, _ => by
    rw [if_neg (by omega)]
    refine amt_none _ _ fun x hx hc => ?_
    have h1 : ((u : Int), x) ∈ startW tr tr.length := mem_atW hx
    unfold startW at h1
    obtain ⟨a, _, h1⟩ := List.mem_flatMap.1 h1
    unfold rowM at h1
    obtain ⟨t, _, h1⟩ := List.mem_flatMap.1 h1
    split at h1
    · have h2 := List.mem_singleton.1 h1
      injection h2 with _ h2
      rw [h2] at hc
      have := hc.2
      have h3 : (0 : Int) = ((j + 1 : Nat) : Int) := this
      omega
    · cases h1
  | k + 1, hk, u, hu => by
    have ih := h.way hi hj hd k (by omega) u (by omega)
    have hg := (gAt_ok h.val hi hj).1
    rw [stM]
    show amt i (j + 1) (atW u (sendsM n k (cameM n tr k) n.gates.length).way) = _
    rw [sends_amt (h.came (by omega)).lines hj, cameM_way, atW_goneZ (by omega), ih, h.went (by omega) hi hj, hd]
    by_cases h1 : u = k + d
    · subst h1
      rw [if_neg (by omega), if_pos ⟨hg, by omega⟩, if_pos ⟨by omega, by omega⟩, Nat.add_sub_cancel]
      omega
    · rw [if_neg (c := gAt n i j < n.gates.length ∧ _) (by omega)]
      by_cases h2 : d ≤ u ∧ u < k + d
      · rw [if_pos h2, if_pos (by omega)]; omega
      · rw [if_neg h2, if_neg (by omega)]; omega
theorem RunOk.step (h : RunOk n tr) {i j : Nat} (hi : i < n.flows.length) (hj : j < (flowAt n i).path.length) {d : Nat} (hd : (gateAt n (gAt n i j)).delay = (d : Int)) (hd1 : 1 ≤ d) : ∀ k : Nat, k ≤ 10001 → CA n tr i (j + 1) k = CD n tr i j (k - d) - CD n tr i j 0
  | 0, _ => by rw [Nat.zero_sub, CA]; omega
  | k + 1, hk => by
    have ih := h.step hi hj hd hd1 k (by omega)
    have h1 := h.way hi hj hd k (by omega) k (Nat.le_refl _)
    rw [CA, ih]
    unfold inM
    rw [h1]
    by_cases h2 : d ≤ k
    · rw [if_pos ⟨h2, by omega⟩, show k + 1 - d = k - d + 1 by omega]; omega
    · rw [if_neg (by omega), show k + 1 - d = 0 by omega, show k - d = 0 by omega]; omega
theorem CD_zero (n : MNet) (tr : List (List Int)) (i j : Nat) : CD n tr i j 0 = 0 := rfl
end Go.Proofs.Ytlbbhlkbhegegaa

/- Plain: THE THEOREM OF THE NETS: no byte takes longer than Delays says. -/
namespace Go.Proofs.Ytlbbhlkbhegegaa
open Go.RowKit

/-! ### sums over the flows of a gate -/
theorem sumTo_add {n : MNet} {F G : Nat → Int} {g : Int} : ∀ k, sumTo n (fun i => F i + G i) g k = sumTo n F g k + sumTo n G g k
  | 0 => rfl
  | k + 1 => by
    rw [sumTo, sumTo, sumTo, sumTo_add k]
    split <;> omega
theorem sumTo_void {n : MNet} {F : Nat → Int} {g : Int} : ∀ k, (∀ i, i < k → F i = 0) → sumTo n F g k = 0
  | 0, _ => rfl
  | k + 1, h => by
    rw [sumTo, sumTo_void k fun i hi => h i (by omega), h k (by omega)]
    split <;> rfl
theorem sumTo_one {n : MNet} {F : Nat → Int} {g : Int} {i0 : Nat} (ht : thru n g i0 = true) (h0 : ∀ i, i ≠ i0 → F i = 0) : ∀ k, i0 < k → sumTo n F g k = F i0
  | 0, h => by omega
  | k + 1, h => by
    rw [sumTo]
    by_cases e : i0 = k
    · subst e
      rw [ht, if_pos rfl, sumTo_void i0 fun i hi => h0 i (by omega)]
      omega
    · rw [sumTo_one ht h0 k (by omega), h0 k (fun h => e h.symm)]
      split <;> omega
theorem sumTo_curve {n : MNet} {X Y B R : Nat → Int} {g : Int} {c : Int} : ∀ k, (∀ i, i < k → thru n g i = true → X i - Y i ≤ B i + R i * c) → sumTo n X g k - sumTo n Y g k ≤ sumTo n B g k + sumTo n R g k * c
  | 0, _ => by simp [sumTo]
  | k + 1, h => by
    have ih := sumTo_curve (X := X) (Y := Y) (B := B) (R := R) (g := g) (c := c) k fun i hi => h i (by omega)
    rw [sumTo, sumTo, sumTo, sumTo]
    rcases ht : thru n g k
    · simp only [Bool.false_eq_true, if_false, Int.add_zero]
      exact ih
    · have := h k (by omega) ht
      simp only [if_true, Int.add_mul]
      omega
theorem sumTo_rate {n : MNet} {g : Int} : ∀ k, k ≤ n.flows.length → sumTo n (fun i => (flowAt n i).rate) g k = sumRate (n.flows.take k) g
  | 0, _ => by simp [sumTo, sumRate]
  | k + 1, hk => by
    rw [sumTo, sumTo_rate k (by omega), sumRate_succ _ _ _ _ (flow_some (show k < n.flows.length by omega))]
    rfl
theorem tot_split {n : MNet} (hv : netB n = true) {g : Nat} : ∀ l : List MPkt, (∀ x ∈ l, AtG n g x) → totP l = sumTo n (fun i => amt i (hopI n g i) l) g n.flows.length
  | [], _ => by rw [sumTo_void _ fun i _ => amt_nil _ _]; rfl
  | x :: l, h => by
    have ih := tot_split hv l fun y hy => h y (by simp [hy])
    have hx := h x (by simp)
    have e : totP (x :: l) = x.many + totP l := by unfold totP; simp
    have h1 := hx.1.flow0
    have h2 := hx.1.flow1
    have h3 := hx.1.hop0
    have hp : x.flow.toNat < n.flows.length := by omega
    have hq : x.hop.toNat < (flowAt n x.flow.toNat).path.length := by have := hx.2.1; unfold pathOf at this; omega
    have h4 := hopI_at hv hp hq
    have h5 : gAt n x.flow.toNat x.hop.toNat = g := hx.2.2
    rw [h5] at h4
    have hone := sumTo_one (F := fun i => if isB i (hopI n g i) x = true then x.many else 0) h4.1 (fun i hi => if_neg (by rw [isB_iff]; omega)) n.flows.length hp
    have h6 : isB x.flow.toNat (hopI n g x.flow.toNat) x = true := isB_iff.2 (by rw [h4.2]; omega)
    rw [e, ih]
    simp only [amt_cons]
    rw [sumTo_add, hone]
    simp only [h6, if_true]
variable {n : MNet} {tr : List (List Int)} {W : Nat → Int}
def CG (n : MNet) (tr : List (List Int)) (g k : Nat) : Int := sumTo n (fun i => CA n tr i (hopI n g i) k) g n.flows.length
def QG (n : MNet) (tr : List (List Int)) (g k : Nat) : Int := totP ((stM n tr k).lines g)
theorem RunOk.came_tot (h : RunOk n tr) {k : Nat} (hk : k ≤ 10000) (g : Nat) : totP ((cameM n tr k).lines g) = QG n tr g k + (CG n tr g (k + 1) - CG n tr g k) := by
  rw [tot_split h.val _ ((h.came hk).lines g)]
  unfold QG CG
  rw [tot_split h.val _ ((h.inv k (by omega)).lines g)]
  have e : sumTo n (fun i => CA n tr i (hopI n g i) (k + 1)) g n.flows.length = sumTo n (fun i => CA n tr i (hopI n g i) k) g n.flows.length + sumTo n (fun i => amt i (hopI n g i) (inM n tr k)) g n.flows.length := sumTo_add _
  have e2 : sumTo n (fun i => amt i (hopI n g i) ((cameM n tr k).lines g)) g n.flows.length = sumTo n (fun i => amt i (hopI n g i) ((stM n tr k).lines g) + amt i (hopI n g i) (inM n tr k)) g n.flows.length := sumTo_congr _ fun i hi ht => by
    have h1 := thru_hop ht
    have := h.came_amt (k := k) (by omega) h1.1
    rw [h1.2] at this
    exact this
  rw [e, e2, sumTo_add]
  omega
theorem RunOk.rate1 (h : RunOk n tr) {g : Nat} (hg : g < n.gates.length) : 1 ≤ (gateAt n g).rate ∧ 1 ≤ (gateAt n g).delay := by
  have := netB_gate h.val (List.getElem?_eq_getElem hg)
  rw [← gateAt_of (List.getElem?_eq_getElem hg)] at this
  omega
theorem RunOk.many (h : RunOk n tr) {k : Nat} (hk : k ≤ 10001) (g : Nat) : ∀ x ∈ (stM n tr k).lines g, 1 ≤ x.many := fun x hx => ((h.inv k hk).lines g x hx).1.many1
theorem RunOk.newG (h : RunOk n tr) {k : Nat} (hk : k ≤ 10001) (g : Nat) : ∀ x ∈ (byF n.flows.length (inM n tr k)).filter (atG n g), x ∈ inM n tr k ∧ 1 ≤ x.many := fun x hx => by
  have h1 := mem_byF (List.mem_filter.1 hx).1
  exact ⟨h1, (h.ins hk x h1).many1⟩
/-- since some tick the line has never been empty -/
theorem RunOk.reich (h : RunOk n tr) {g : Nat} (hg : g < n.gates.length) : ∀ k : Nat, k ≤ 10001 → ∃ s, s ≤ k ∧ QG n tr g k ≤ CG n tr g k - CG n tr g s - (gateAt n g).rate * ((k : Int) - s)
  | 0, _ => ⟨0, Nat.le_refl _, by
    show totP [] ≤ _
    have : totP ([] : List MPkt) = 0 := rfl
    simp [this]⟩
  | k + 1, hk => by
    obtain ⟨s, hs, hq⟩ := h.reich hg k (by omega)
    have hr := (h.rate1 hg).1
    have h1 := h.came_tot (k := k) (by omega) g
    have h2 := sendL_rest ((cameM n tr k).lines g) (gateAt n g).rate (fun x hx => ((h.came (by omega)).lines g x hx).1.many1) (by omega)
    rw [← h.next (by omega) g hg] at h2
    by_cases h3 : totP ((cameM n tr k).lines g) ≤ (gateAt n g).rate
    · refine ⟨k + 1, Nat.le_refl _, ?_⟩
      unfold QG
      rw [h2.1 h3]
      have : totP ([] : List MPkt) = 0 := rfl
      simp [this]
    · refine ⟨s, by omega, ?_⟩
      have h4 : QG n tr g (k + 1) = _ := h2.2 (by omega)
      rw [h4, h1]
      have : (gateAt n g).rate * (((k + 1 : Nat) : Int) - s) = (gateAt n g).rate * ((k : Int) - s) + (gateAt n g).rate := by
        rw [show ((k + 1 : Nat) : Int) - s = ((k : Int) - s) + 1 by omega, Int.mul_add, Int.mul_one]
      omega
/-- the curves, up to a tick -/
def CurOk (n : MNet) (tr : List (List Int)) (W : Nat → Int) (K : Nat) : Prop := ∀ i, i < n.flows.length → ∀ j, j < (flowAt n i).path.length → ∀ s e, s < e → e ≤ K → CA n tr i j e - CA n tr i j s ≤ bT n W i j + (flowAt n i).rate * ((e : Int) - 1 - s)
structure WaitOk (n : MNet) (W : Nat → Int) : Prop where
  pos : ∀ j, 0 ≤ W j
  sum : ∀ k : Nat, k < n.gates.length → sumTo n (fun i => bT n W i (hopI n k i)) k n.flows.length ≤ (gateAt n k).rate * (W k + 1)
  rate : ∀ k : Nat, k < n.gates.length → sumRate n.flows k ≤ (gateAt n k).rate
theorem RunOk.q_le (h : RunOk n tr) (hw : WaitOk n W) {K : Nat} (hK : K ≤ 10001) (hc : CurOk n tr W K) {g : Nat} (hg : g < n.gates.length) {k : Nat} (hk : k ≤ K) : QG n tr g k ≤ (gateAt n g).rate * W g := by
  obtain ⟨s, hs, hq⟩ := h.reich hg k (by omega)
  have hr := (h.rate1 hg).1
  have h0 := Int.mul_nonneg (show 0 ≤ (gateAt n g).rate by omega) (hw.pos g)
  by_cases e : s = k
  · subst e
    have : (gateAt n g).rate * ((s : Int) - s) = 0 := by rw [Int.sub_self, Int.mul_zero]
    omega
  · have h1 := sumTo_curve (n := n) (X := fun i => CA n tr i (hopI n g i) k) (Y := fun i => CA n tr i (hopI n g i) s) (B := fun i => bT n W i (hopI n g i)) (R := fun i => (flowAt n i).rate) (g := g) (c := (k : Int) - 1 - s) n.flows.length fun i hi ht =>
      hc i hi _ (thru_hop ht).1 s k (by omega) hk
    have h2 := hw.sum g hg
    have h3 := hw.rate g hg
    rw [sumTo_rate _ (Nat.le_refl _), List.take_length] at h1
    have h4 : sumRate n.flows g * ((k : Int) - 1 - s) ≤ (gateAt n g).rate * ((k : Int) - 1 - s) := Int.mul_le_mul_of_nonneg_right h3 (by omega)
    have h5 : (gateAt n g).rate * ((k : Int) - s) = (gateAt n g).rate * ((k : Int) - 1 - s) + (gateAt n g).rate := by
      rw [show (k : Int) - s = ((k : Int) - 1 - s) + 1 by omega, Int.mul_add, Int.mul_one]
    rw [Int.mul_add, Int.mul_one] at h2
    have h6 : CG n tr g k - CG n tr g s ≤ _ := h1
    omega
def hiX (n : MNet) (W : Nat → Int) (x : MPkt) : Int := x.born + hiT n W x.flow.toNat x.hop.toNat
def loX (n : MNet) (x : MPkt) : Int := x.born + loT n x.flow.toNat x.hop.toNat
/-- what a line held some ticks ago goes first -/
theorem RunOk.fifo (h : RunOk n tr) {g : Nat} (hg : g < n.gates.length) (k : Nat) : ∀ j : Nat, k + j ≤ 10001 → (∀ m, m < k + j → ∀ x ∈ inM n tr m, (m : Int) ≤ hiX n W x) →
    ∃ X Y, (stM n tr (k + j)).lines g = X ++ Y ∧ (∀ x ∈ X, 1 ≤ x.many) ∧ (X = [] ∨ totP X ≤ QG n tr g k - (gateAt n g).rate * j) ∧ (∀ y ∈ Y, 1 ≤ y.many ∧ (k : Int) ≤ hiX n W y) ∧ ∀ i q, q < (flowAt n i).path.length → gAt n i q = g → amt i q Y ≤ CA n tr i q (k + j) - CA n tr i q k
  | 0, hk, _ => ⟨(stM n tr k).lines g, [], by simp, h.many (by omega) g, .inr (by unfold QG; simp), (fun y hy => by cases hy), fun i q _ _ => by rw [amt_nil]; simp⟩
  | j + 1, hk, hV => by
    obtain ⟨X, Y, hl, hX, hX2, hY, hA⟩ := h.fifo hg k j (by omega) fun m hm => hV m (by omega)
    have hr := (h.rate1 hg).1
    have h1 := h.next (k := k + j) (by omega) g hg
    rw [cameM_lines, hl, List.append_assoc] at h1
    have hnew := h.newG (k := k + j) (by omega) g
    obtain ⟨Y', hY', hP⟩ := sendL_split X (Y ++ (byF n.flows.length (inM n tr (k + j))).filter (atG n g)) (gateAt n g).rate hX fun y hy => by
      rcases List.mem_append.1 hy with hy | hy
      · exact (hY y hy).1
      · exact (hnew y hy).2
    rw [hY'] at h1
    have h2 := sendL_rest X (gateAt n g).rate hX (by omega)
    refine ⟨_, Y', h1, fun x hx => ((sendL_part X _ hX).mem x hx).1, ?_, fun y hy => ?_, fun i q hq he => ?_⟩
    · rcases hX2 with rfl | hX2
      · exact .inl rfl
      · by_cases h3 : totP X ≤ (gateAt n g).rate
        · exact .inl (h2.1 h3)
        · refine .inr ?_
          rw [h2.2 (by omega)]
          have : (gateAt n g).rate * ((j + 1 : Nat) : Int) = (gateAt n g).rate * j + (gateAt n g).rate := by
            rw [Int.natCast_add, Int.mul_add]; simp
          omega
    · obtain ⟨h3, x, hx, h4, h5, h6⟩ := hP.mem y hy
      refine ⟨h3, ?_⟩
      have e : hiX n W y = hiX n W x := by unfold hiX; rw [h4, h5, h6]
      rw [e]
      rcases List.mem_append.1 hx with hx | hx
      · exact (hY x hx).2
      · have := hV (k + j) (by omega) x (hnew x hx).1
        omega
    · have h3 := hP.le i q
      rw [amt_app, amt_filter, amt_byF (h.flows (by omega))] at h3
      · have := hA i q hq he
        show _ ≤ CA n tr i q (k + j) + amt i q (inM n tr (k + j)) - _
        omega
      · intro x hx h4 h5
        have := hop_isG (n := n) h4 h5
        unfold atG
        rw [this.1, this.2, h5, he, decide_eq_true (by omega), decide_eq_true rfl]
        rfl
theorem RunOk.served (h : RunOk n tr) (hw : WaitOk n W) {K : Nat} (hK : K ≤ 10001) (hc : CurOk n tr W K) (hV : ∀ m, m < K → ∀ x ∈ inM n tr m, (m : Int) ≤ hiX n W x) {g : Nat} (hg : g < n.gates.length) :
    (∀ y ∈ (stM n tr K).lines g, (K : Int) ≤ hiX n W y + W g) ∧ ∀ i q, q < (flowAt n i).path.length → gAt n i q = g → CA n tr i q (K - (W g).toNat) ≤ CD n tr i q K := by
  obtain ⟨k, hk⟩ : ∃ k, K - (W g).toNat = k := ⟨_, rfl⟩
  have hw0 := hw.pos g
  have hr := (h.rate1 hg).1
  obtain ⟨X, Y, hl, hX, hX2, hY, hA⟩ := h.fifo (W := W) hg k (K - k) (by omega) fun m hm => hV m (by omega)
  rw [show k + (K - k) = K by omega] at hl hA
  have hnil : X = [] := by
    rcases hX2 with hX2 | hX2
    · exact hX2
    · have h1 := len_tot hX
      have h2 : totP X ≤ 0 := by
        by_cases hkw : (W g).toNat ≤ K
        · have h3 := h.q_le hw hK hc hg (k := k) (by omega)
          have h4 : ((K - k : Nat) : Int) = W g := by omega
          rw [h4] at hX2
          omega
        · have h3 : k = 0 := by omega
          have h4 : QG n tr g k = 0 := by rw [h3]; rfl
          have h5 := Int.mul_nonneg (show 0 ≤ (gateAt n g).rate by omega) (show 0 ≤ ((K - k : Nat) : Int) by omega)
          omega
      exact List.length_eq_zero_iff.1 (by omega)
  rw [hnil, List.nil_append] at hl
  refine ⟨fun y hy => ?_, fun i q hq he => ?_⟩
  · rw [hl] at hy
    have := (hY y hy).2
    omega
  · rw [hk]
    have := hA i q hq he
    unfold CD
    rw [he, hl]
    omega
/-! ### the traffic -/
theorem rowM_amt {a i : Nat} {l : List Int} (hl : ∀ b ∈ l, 0 ≤ b) (u : Nat) : ∀ j, j ≤ l.length → amt i 0 (atW u (rowM a l j)) = if a = i ∧ u < j then l.getD u 0 else 0
  | 0, _ => by rw [if_neg (by omega)]; rfl
  | j + 1, hj => by
    rw [rowM_succ, atW_appZ, amt_app, rowM_amt hl u j (by omega)]
    have hb : 0 ≤ l.getD j 0 := by
      rw [List.getD_eq_getElem?_getD, List.getElem?_eq_getElem (show j < l.length by omega)]
      exact hl _ (List.getElem_mem _)
    by_cases hz : 0 < l.getD j 0
    · rw [if_pos hz]
      have e : atW u [((j : Int), (⟨a, 0, j, l.getD j 0⟩ : MPkt))] = if (j : Int) = u then [(⟨a, 0, j, l.getD j 0⟩ : MPkt)] else [] := atW_at u j [(⟨a, 0, j, l.getD j 0⟩ : MPkt)]
      rw [e]
      by_cases hju : j = u
      · subst hju
        rw [if_pos rfl, amt_cons, amt_nil, if_neg (c := a = i ∧ j < j) (by omega)]
        by_cases ha : a = i
        · rw [if_pos (isB_iff.2 ⟨by show (a : Int) = i; omega, rfl⟩), if_pos ⟨ha, by omega⟩]
          show 0 + (l.getD j 0 + 0) = _; omega
        · rw [if_neg (by rw [isB_iff]; intro hh; have : (a : Int) = i := hh.1; omega), if_neg (by omega)]; rfl
      · rw [if_neg (c := (j : Int) = u) (by omega), amt_nil]
        by_cases hh : a = i ∧ u < j
        · rw [if_pos hh, if_pos (by omega)]; omega
        · rw [if_neg hh, if_neg (by omega)]; rfl
    · rw [if_neg hz, show atW u ([] : List (Int × MPkt)) = [] from rfl, amt_nil]
      by_cases hh : a = i ∧ u < j
      · rw [if_pos hh, if_pos (by omega)]; omega
      · rw [if_neg hh]
        by_cases h2 : a = i ∧ u < j + 1
        · rw [if_pos h2, show u = j by omega]; omega
        · rw [if_neg h2]; rfl
theorem startW_amt {tr : List (List Int)} (h : tr.all lawfulB = true) {i : Nat} (u : Nat) : ∀ k, k ≤ tr.length → amt i 0 (atW u (startW tr k)) = if i < k then (tr.getD i []).getD u 0 else 0
  | 0, _ => by rw [if_neg (by omega)]; rfl
  | k + 1, hk => by
    have hl : tr[k]? = some tr[k] := List.getElem?_eq_getElem (by omega)
    have hgd : tr.getD k [] = tr[k] := by rw [List.getD_eq_getElem?_getD, hl]; rfl
    have h1 := (lawful_at h hl).2
    rw [startW_succ, atW_appZ, amt_app, startW_amt h u k (by omega), rowM_amt (fun b hb => (h1 b (by rw [← hgd]; exact hb)).1) u _ (Nat.le_refl _)]
    by_cases e : k = i
    · subst e
      rw [if_neg (Nat.lt_irrefl _), if_pos (Nat.lt_succ_self _)]
      by_cases hu : u < (tr.getD k []).length
      · rw [if_pos ⟨rfl, hu⟩]; omega
      · rw [if_neg (fun h => hu h.2)]
        have : (tr.getD k []).getD u 0 = 0 := by rw [List.getD_eq_getElem?_getD (l := tr.getD k []), List.getElem?_eq_none (by omega)]; rfl
        omega
    · rw [if_neg (c := k = i ∧ _) (by omega)]
      by_cases h2 : i < k
      · rw [if_pos h2, if_pos (by omega)]; omega
      · rw [if_neg h2, if_neg (by omega)]; rfl
theorem RunOk.way0 (h : RunOk n tr) {i : Nat} (hi : i < n.flows.length) : ∀ k : Nat, k ≤ 10001 → ∀ u : Nat, k ≤ u → amt i 0 (atW u (stM n tr k).way) = (tr.getD i []).getD u 0
  | 0, _, u, _ => by
    have := startW_amt h.law (i := i) u tr.length (Nat.le_refl _)
    rw [if_pos (by rw [h.len]; exact hi)] at this
    exact this
  | k + 1, hk, u, hu => by
    have ih := h.way0 hi k (by omega) u (by omega)
    rw [stM]
    show amt i 0 (atW u (sendsM n k (cameM n tr k) n.gates.length).way) = _
    rw [sends_amt0 (h.came (by omega)).lines, cameM_way, atW_goneZ (by omega), ih]
theorem accS_more (l : List Int) (s k : Nat) : accS l s (k + 1) = accS l s k + l.getD (s + k) 0 := by
  by_cases h : s + k < l.length
  · rw [accS_succ (List.getElem?_eq_getElem h), List.getD_eq_getElem?_getD, List.getElem?_eq_getElem h]; rfl
  · unfold accS
    rw [List.getD_eq_getElem?_getD, List.getElem?_eq_none (by omega), List.take_of_length_le (by rw [List.length_drop]; omega), List.take_of_length_le (by rw [List.length_drop]; omega)]
    simp
theorem RunOk.acc (h : RunOk n tr) {i : Nat} (hi : i < n.flows.length) (s : Nat) : ∀ d, s + d ≤ 10001 → CA n tr i 0 (s + d) - CA n tr i 0 s = accS (tr.getD i []) s d
  | 0, _ => by rw [accS_zero]; simp
  | d + 1, hd => by
    have ih := h.acc hi s d (by omega)
    have h1 := h.way0 hi (s + d) (by omega) (s + d) (Nat.le_refl _)
    rw [accS_more, ← ih, ← h1]
    show CA n tr i 0 (s + d) + amt i 0 (inM n tr (s + d)) - _ = _
    unfold inM
    omega
theorem conf_more {b r : Int} {l : List Int} (hb : 0 ≤ b) (hr : 0 ≤ r) (h : confB b r l = true) (s : Nat) : ∀ k : Nat, accS l s (k + 1) ≤ b + r * k
  | 0 => by
    by_cases hs : s + 0 < l.length
    · unfold confB at h
      rw [List.all_eq_true] at h
      have h1 := h s (List.mem_range.2 (by omega))
      rw [List.all_eq_true] at h1
      exact of_decide_eq_true (h1 0 (List.mem_range.2 (by omega)))
    · rw [accS_more, accS_zero, List.getD_eq_getElem?_getD, List.getElem?_eq_none (by omega)]
      show (0 : Int) + 0 ≤ b + r * ((0 : Nat) : Int)
      simp [hb]
  | k + 1 => by
    by_cases hs : s + (k + 1) < l.length
    · unfold confB at h
      rw [List.all_eq_true] at h
      have h1 := h s (List.mem_range.2 (by omega))
      rw [List.all_eq_true] at h1
      exact of_decide_eq_true (h1 (k + 1) (List.mem_range.2 (by omega)))
    · have ih := conf_more hb hr h s k
      rw [accS_more, List.getD_eq_getElem?_getD, List.getElem?_eq_none (by omega)]
      have : r * ((k + 1 : Nat) : Int) = r * k + r := by rw [Int.natCast_add, Int.mul_add]; simp
      show _ + (0 : Int) ≤ _
      omega
/-! ### the induction -/
structure TimeOk (n : MNet) (tr : List (List Int)) (W : Nat → Int) (K : Nat) : Prop where
  cur : CurOk n tr W K
  way : ∀ p ∈ (stM n tr K).way, p.1 ≤ hiX n W p.2 ∧ loX n p.2 ≤ p.1
  lin : ∀ g, ∀ x ∈ (stM n tr K).lines g, (K : Int) ≤ hiX n W x + W g ∧ loX n x ≤ K
  lag : ∀ i, i < n.flows.length → ∀ j, j < (flowAt n i).path.length → CA n tr i j (K - (W (gAt n i j)).toNat) ≤ CD n tr i j K
  out : ∀ i, i < n.flows.length → (stM n tr K).out i ≤ hiT n W i (flowAt n i).path.length ∧ ((stM n tr K).out i = -1 ∨ loT n i (flowAt n i).path.length ≤ (stM n tr K).out i)
theorem hiT_pos (hv : netB n = true) (hw : ∀ j, 0 ≤ W j) {i : Nat} (hi : i < n.flows.length) : ∀ h, h ≤ (flowAt n i).path.length → 0 ≤ hiT n W i h
  | 0, _ => Int.le_refl _
  | h + 1, hh => by
    have h1 := hiT_pos hv hw hi h (by omega)
    have h2 := (gAt_ok hv hi (show h < (flowAt n i).path.length by omega)).1
    have h3 := (netB_gate hv (List.getElem?_eq_getElem h2)).2
    rw [← gateAt_of (List.getElem?_eq_getElem h2)] at h3
    have h4 := hw (gAt n i h)
    rw [hiT]; omega
theorem RunOk.time_zero (h : RunOk n tr) (hw : WaitOk n W) : TimeOk n tr W 0 := by
  refine ⟨(fun i _ j _ s e hs he => by omega), fun p hp => ?_, (fun g x hx => by cases hx), fun i hi j hj => ?_, fun i hi => ⟨?_, .inl rfl⟩⟩
  · have h1 : p ∈ startW tr tr.length := hp
    unfold startW at h1
    obtain ⟨a, _, h1⟩ := List.mem_flatMap.1 h1
    unfold rowM at h1
    obtain ⟨t, _, h1⟩ := List.mem_flatMap.1 h1
    split at h1
    · have h2 := List.mem_singleton.1 h1
      subst h2
      unfold hiX loX
      show (t : Int) ≤ t + hiT n W _ 0 ∧ (t : Int) + loT n _ 0 ≤ t
      rw [hiT, loT]; omega
    · cases h1
  · rw [Nat.zero_sub]; exact Int.le_refl _
  · have := hiT_pos h.val hw.pos hi _ (Nat.le_refl _)
    show (-1 : Int) ≤ _
    omega
theorem RunOk.time_step (h : RunOk n tr) (hw : WaitOk n W) (hcf : ∀ i, i < n.flows.length → confB (flowAt n i).burst (flowAt n i).rate (tr.getD i []) = true) {K : Nat} (hK : K ≤ 10000) (hT : ∀ k, k ≤ K → TimeOk n tr W k) : TimeOk n tr W (K + 1) := by
  have hTK := hT K (Nat.le_refl _)
  have hin : ∀ m, m < K + 1 → ∀ x ∈ inM n tr m, (m : Int) ≤ hiX n W x ∧ loX n x ≤ m := fun m hm x hx => (hT m (by omega)).way _ (mem_atW hx)
  -- what stands in a line when the gates send
  have hcame : ∀ g, ∀ x ∈ (cameM n tr K).lines g, AtG n g x ∧ (K : Int) ≤ hiX n W x + W g ∧ loX n x ≤ K := fun g x hx => by
    refine ⟨(h.came hK).lines g x hx, ?_⟩
    rw [cameM_lines] at hx
    rcases List.mem_append.1 hx with hx | hx
    · exact hTK.lin g x hx
    · have h1 := hin K (by omega) x (h.newG (by omega) g x hx).1
      have h2 := hw.pos g
      omega
  have hcur : CurOk n tr W (K + 1) := fun i hi j hj s e hs he => by
    by_cases heK : e ≤ K
    · exact hTK.cur i hi j hj s e hs heK
    · have he : e = K + 1 := by omega
      subst he
      have hrate := (flow_rate h.val (flow_some hi)).2.1
      have hburst := (flow_rate h.val (flow_some hi)).1.1
      rcases j with _ | j
      · have h1 := h.acc hi s (K - s + 1) (by omega)
        have h2 := conf_more (show 0 ≤ (flowAt n i).burst by omega) hrate (hcf i hi) s (K - s)
        rw [show s + (K - s + 1) = K + 1 by omega] at h1
        rw [h1, bT, show ((K + 1 : Nat) : Int) - 1 - s = ((K - s : Nat) : Int) by omega]
        exact h2
      · obtain ⟨hgl, _⟩ := gAt_ok h.val hi (show j < (flowAt n i).path.length by omega)
        have hdl := (h.rate1 hgl).2
        obtain ⟨d, hd⟩ : ∃ d : Nat, (gateAt n (gAt n i j)).delay = (d : Int) := ⟨(gateAt n (gAt n i j)).delay.toNat, by omega⟩
        have h1 := h.step hi (show j < (flowAt n i).path.length by omega) hd (by omega)
        rw [h1 (K + 1) (by omega), h1 s (by omega)]
        have hw0 := hw.pos (gAt n i j)
        have h2 := (hT (s - d) (by omega)).lag i hi j (by omega)
        have h3 : CD n tr i j (K + 1 - d) ≤ CA n tr i j (K + 1 - d) := by
          have := amt_pos i j (h.many (k := K + 1 - d) (by omega) (gAt n i j))
          unfold CD; omega
        obtain ⟨a, ha⟩ : ∃ a, K + 1 - d = a := ⟨_, rfl⟩
        obtain ⟨c, hc⟩ : ∃ c, s - d - (W (gAt n i j)).toNat = c := ⟨_, rfl⟩
        rw [ha] at h3 ⊢
        rw [hc] at h2
        have hb := bT_pos h.val hw.pos hi j
        have hrw := Int.mul_nonneg hrate hw0
        have hrk := Int.mul_nonneg hrate (show 0 ≤ ((K + 1 : Nat) : Int) - 1 - s by omega)
        rw [bT]
        by_cases hca : c < a
        · have h4 := hTK.cur i hi j (by omega) c a hca (by omega)
          have h5 : (flowAt n i).rate * ((a : Int) - 1 - c) ≤ (flowAt n i).rate * (W (gAt n i j) + (((K + 1 : Nat) : Int) - 1 - s)) := Int.mul_le_mul_of_nonneg_left (by omega) hrate
          rw [Int.mul_add] at h5
          omega
        · have h4 := h.mono' i j (show a ≤ c by omega) (by omega)
          omega
  have hsv := fun g (hg : g < n.gates.length) => h.served hw (K := K + 1) (by omega) hcur (fun m hm x hx => (hin m hm x hx).1) hg
  have hgate : ∀ {x : MPkt} {g : Nat}, AtG n g x → x.flow.toNat < n.flows.length ∧ x.hop.toNat < (flowAt n x.flow.toNat).path.length ∧ gAt n x.flow.toNat x.hop.toNat = g ∧ g < n.gates.length := fun {x g} hx => by
    have h1 := hx.1.flow0
    have h2 := hx.1.flow1
    have h3 := hx.1.hop0
    have h4 := hx.2.1
    have h5 : gAt n x.flow.toNat x.hop.toNat = g := hx.2.2
    have h6 : x.hop.toNat < (flowAt n x.flow.toNat).path.length := by unfold pathOf at h4; omega
    have h7 := (gAt_ok h.val (show x.flow.toNat < n.flows.length by omega) h6).1
    exact ⟨by omega, h6, h5, by omega⟩
  refine ⟨hcur, fun p hp => ?_, fun g x hx => ?_, fun i hi j hj => (hsv _ (gAt_ok h.val hi hj).1).2 i j hj rfl, fun i hi => ?_⟩
  · have hp : p ∈ (sendsM n K (cameM n tr K) n.gates.length).way := hp
    rcases sends_mem _ p hp with hp | ⟨g, x, hx, h1, h2, h3, h4⟩
    · rw [cameM_way] at hp
      exact hTK.way p (List.mem_filter.1 hp).1
    · obtain ⟨hx1, hx2, hx3⟩ := hcame g x hx
      obtain ⟨h5, h6, h7, _⟩ := hgate hx1
      have h8 := hx1.1.hop0
      unfold hiX at hx2 ⊢
      unfold loX at hx3 ⊢
      rw [h2, h4, h1, show p.2.hop.toNat = x.hop.toNat + 1 by omega, hiT, loT, h7]
      omega
  · have hAt := (h.inv (K + 1) (by omega)).lines g x hx
    obtain ⟨_, _, _, hg⟩ := hgate hAt
    refine ⟨(hsv g hg).1 x hx, ?_⟩
    rw [h.next hK g hg] at hx
    obtain ⟨_, y, hy, h2, h3, h4⟩ := (sendL_part _ _ fun z hz => (hcame g z hz).1.1.many1).mem x hx
    have := (hcame g y hy).2.2
    unfold loX at this ⊢
    rw [h2, h3, h4]
    omega
  · have e : (stM n tr (K + 1)).out i = (cameM n tr K).out i := by
      rw [stM]
      show (sendsM n K (cameM n tr K) n.gates.length).out i = _
      rw [sends_out]
    rw [e]
    rcases (come_fold n K (byF n.flows.length (inM n tr K)) (gone K (stM n tr K))).2.2 i with h1 | ⟨_, x, hx, h2, h3, h4⟩
    · have h1 : (cameM n tr K).out i = (stM n tr K).out i := h1
      rw [h1]
      exact hTK.out i hi
    · have h4 : (cameM n tr K).out i = K - x.born := h4
      have h5 := hin K (by omega) x (mem_byF hx)
      unfold hiX loX at h5
      have h6 : x.hop.toNat = (flowAt n i).path.length := by unfold pathOf at h3; rw [h2] at h3; omega
      rw [h2, h6] at h5
      rw [h4]
      exact ⟨by omega, .inr (by omega)⟩
theorem RunOk.time (h : RunOk n tr) (hw : WaitOk n W) (hcf : ∀ i, i < n.flows.length → confB (flowAt n i).burst (flowAt n i).rate (tr.getD i []) = true) : ∀ K, K ≤ 10001 → ∀ k, k ≤ K → TimeOk n tr W k
  | 0, _, k, hk => by
    obtain rfl : k = 0 := by omega
    exact h.time_zero hw
  | K + 1, hK, k, hk => by
    have ih := h.time hw hcf K (by omega)
    by_cases e : k = K + 1
    · subst e
      exact h.time_step hw hcf (by omega) ih
    · exact ih k (by omega)
/-- what Delays answers: waits, delays, error -/
def delP (n : MNet) : List Int × List Int × Int :=
  if checkS n ≠ 0 then ([], [], checkS n) else
  match orderS n with
  | none => ([], [], 0)
  | some l => match delI n l (burst0 n) (fun _ => 0) (fun _ => 0) with
    | none => ([], [], 41)
    | some (W, D) => ((List.range n.gates.length).map W, (List.range n.flows.length).map D, 0)
theorem nets_law {n : MNet} {tr : List (List Int)} {m x a : List Int} (hs : sendOut n tr = (m, 0)) (hd : delP n = (x, a, 0)) (hmuch : totW (startW tr tr.length) ≤ 6000)
    (hcf : ∀ i, i < n.flows.length → (confS (flowAt n i).burst (flowAt n i).rate (tr.getD i [])).1 = true) :
    m.length = n.flows.length ∧ a.length = n.flows.length ∧ tr.length = n.flows.length ∧ ∀ i, i < n.flows.length → m.getD i 0 ≤ a.getD i 0 ∧ (0 ≤ m.getD i 0 → loT n i (flowAt n i).path.length ≤ m.getD i 0) := by
  unfold delP at hd
  by_cases hc : checkS n = 0
  · rw [if_neg (by simpa using hc)] at hd
    obtain ⟨hv, l, hl⟩ := check_parts hc
    rw [hl] at hd
    simp only at hd
    rcases hdd : delI n l (burst0 n) (fun _ => 0) (fun _ => 0) with _ | ⟨W, D⟩
    · simp only [hdd, Prod.mk.injEq] at hd
      omega
    · simp only [hdd, Prod.mk.injEq] at hd
      obtain ⟨hw1, hw2, hw3⟩ := del_fix hv hl hdd
      have hw : WaitOk n W := ⟨hw1, hw2, fun k hk => by
        have h1 : (List.range n.gates.length).all (rateOk n) = true := by
          unfold checkS at hc
          rw [if_pos hv, hl, if_pos (show (some l).isSome = true from rfl)] at hc
          rcases hx : (List.range n.gates.length).all (rateOk n)
          · rw [hx] at hc; exact absurd hc (by decide)
          · rfl
        rw [List.all_eq_true] at h1
        have h2 := h1 k (List.mem_range.2 hk)
        rw [rateOk_of (List.getElem?_eq_getElem hk)] at h2
        rw [gateAt_of (List.getElem?_eq_getElem hk)]
        exact of_decide_eq_true h2⟩
      unfold sendOut at hs
      rw [if_neg (by simpa using hc)] at hs
      split at hs
      · rw [Prod.mk.injEq] at hs; exact absurd hs.2 (by decide)
      · rename_i hlaw
        have hlen : tr.length = n.flows.length := by
          by_cases h : tr.length = n.flows.length
          · exact h
          · exact absurd (.inl h) hlaw
        have hla : tr.all lawfulB = true := by
          rcases h : tr.all lawfulB
          · exact absurd (.inr h) hlaw
          · rfl
        have hR : RunOk n tr := ⟨hv, hla, hlen, hmuch⟩
        have hcf' : ∀ i, i < n.flows.length → confB (flowAt n i).burst (flowAt n i).rate (tr.getD i []) = true := fun i hi => by
          have h1 := hcf i hi
          unfold confS at h1
          split at h1
          · cases h1
          · split at h1
            · cases h1
            · exact h1
        rcases hr : runM n 10001 (startM tr) with _ | s
        · simp only [hr, Prod.mk.injEq] at hs
          exact absurd hs.2 (by decide)
        · simp only [hr, Prod.mk.injEq] at hs
          obtain ⟨K, hK, rfl⟩ := runM_at n tr 10001 0 s rfl hr
          have hT := hR.time hw hcf' K hK K (Nat.le_refl _)
          rw [← hs.1, ← hd.2.1]
          refine ⟨by simp, by simp, hlen, fun i hi => ?_⟩
          have e : ∀ F : Nat → Int, ((List.range n.flows.length).map F).getD i 0 = F i := fun F => by simp [List.getD_eq_getElem?_getD, hi]
          rw [e, e, hw3 i hi]
          have h1 := hT.out i hi
          exact ⟨h1.1, fun h0 => by rcases h1.2 with h2 | h2 <;> omega⟩
  · rw [if_pos hc] at hd
    simp only [Prod.mk.injEq] at hd
    exact absurd hd.2.2 hc
theorem delP_ok {n : MNet} {x a : List Int} (hd : delP n = (x, a, 0)) : checkS n = 0 ∧ netB n = true ∧ a.length = n.flows.length := by
  unfold delP at hd
  by_cases hc : checkS n = 0
  · rw [if_neg (by simpa using hc)] at hd
    obtain ⟨hv, l, hl⟩ := check_parts hc
    rw [hl] at hd
    simp only at hd
    rcases hdd : delI n l (burst0 n) (fun _ => 0) (fun _ => 0) with _ | ⟨W, D⟩
    · simp only [hdd, Prod.mk.injEq] at hd
      omega
    · simp only [hdd, Prod.mk.injEq] at hd
      refine ⟨hc, hv, ?_⟩
      rw [← hd.2.1]; simp
  · rw [if_pos hc] at hd
    simp only [Prod.mk.injEq] at hd
    exact absurd hd.2.2 hc
theorem sendOut_ok {n : MNet} {tr : List (List Int)} {m : List Int} (hs : sendOut n tr = (m, 0)) : checkS n = 0 ∧ tr.length = n.flows.length ∧ tr.all lawfulB = true ∧ m.length = n.flows.length := by
  unfold sendOut at hs
  by_cases hc : checkS n = 0
  · rw [if_neg (by simpa using hc)] at hs
    split at hs
    · rw [Prod.mk.injEq] at hs; exact absurd hs.2 (by decide)
    · rename_i hlaw
      have hlen : tr.length = n.flows.length := by
        by_cases h : tr.length = n.flows.length
        · exact h
        · exact absurd (.inl h) hlaw
      have hla : tr.all lawfulB = true := by
        rcases h : tr.all lawfulB
        · exact absurd (.inr h) hlaw
        · rfl
      refine ⟨hc, hlen, hla, ?_⟩
      rcases hr : runM n 10001 (startM tr) with _ | s
      · simp only [hr, Prod.mk.injEq] at hs
        exact absurd hs.2 (by decide)
      · simp only [hr, Prod.mk.injEq] at hs
        rw [← hs.1]; simp
  · rw [if_pos hc] at hs
    simp only [Prod.mk.injEq] at hs
    exact absurd hs.2 hc
/-- in a valid net a lawful flow conforms or not: no error -/
theorem conf_err {n : MNet} {tr : List (List Int)} (hv : netB n = true) (hlaw : tr.all lawfulB = true) (hl : tr.length = n.flows.length) {i : Nat} (hi : i < n.flows.length) : (confS (flowAt n i).burst (flowAt n i).rate (tr.getD i [])).2 = 0 := by
  unfold confS
  rw [if_neg (by rw [(netB_flow hv (flow_some hi)).1]; simp), if_neg]
  have h1 : tr[i]? = some tr[i] := List.getElem?_eq_getElem (by omega)
  have h2 := List.all_eq_true.1 hlaw _ (List.mem_of_getElem? h1)
  rw [List.getD_eq_getElem?_getD, h1]
  show ¬ lawfulB tr[i] = false
  rw [h2]; simp
end Go.Proofs.Ytlbbhlkbhegegaa

/- Walks: ignitionlaw04.much, and what it says of the traffic. -/
namespace Go.Proofs.Ytlbbhlkbhegegaa
open Go.RowKit

def clipM (x : Int) : Int := if 0 < (if 1000 < x then 1000 else x) then (if 1000 < x then 1000 else x) else 0
def rowSum (l : List Int) : Nat → Int
  | 0 => 0
  | k + 1 => rowSum l k + clipM (l.getD k 0)
def allSum (tr : List (List Int)) : Nat → Int
  | 0 => 0
  | k + 1 => allSum tr k + rowSum (tr.getD k []) (min (tr.getD k []).length 65)
theorem clipM_bd (x : Int) : 0 ≤ clipM x ∧ clipM x ≤ 1000 := by
  unfold clipM
  split <;> split <;> omega
theorem rowSum_bd (l : List Int) : ∀ k, 0 ≤ rowSum l k ∧ rowSum l k ≤ 1000 * (k : Int)
  | 0 => by rw [rowSum]; omega
  | k + 1 => by
    have h1 := rowSum_bd l k
    have h2 := clipM_bd (l.getD k 0)
    rw [rowSum]; omega
theorem allSum_bd (tr : List (List Int)) : ∀ k, 0 ≤ allSum tr k ∧ allSum tr k ≤ 65000 * (k : Int)
  | 0 => by rw [allSum]; omega
  | k + 1 => by
    have h1 := allSum_bd tr k
    have h2 := rowSum_bd (tr.getD k []) (min (tr.getD k []).length 65)
    have h3 : min (tr.getD k []).length 65 ≤ 65 := Nat.min_le_right _ _
    rw [allSum]; omega
/-- what is not much -/
structure NotMuch (n : MNet) (tr : List (List Int)) : Prop where
  rows : tr.length ≤ 8 ∨ 40 < tr.length
  gates : n.gates.length ≤ 8 ∨ 30 < n.gates.length
  sum : allSum tr (min tr.length 8) ≤ 6000
/-! ### of lawful traffic -/
theorem totW_rowM (a : Nat) {l : List Int} (hl : ∀ b ∈ l, 0 ≤ b ∧ b ≤ 1000) : ∀ j, j ≤ l.length → totW (rowM a l j) = rowSum l j
  | 0, _ => rfl
  | j + 1, hj => by
    rw [rowM_succ, totW_app, totW_rowM a hl j (by omega), rowSum]
    have hb : 0 ≤ l.getD j 0 ∧ l.getD j 0 ≤ 1000 := by
      rw [List.getD_eq_getElem?_getD, List.getElem?_eq_getElem (show j < l.length by omega)]
      exact hl _ (List.getElem_mem _)
    have hc : clipM (l.getD j 0) = l.getD j 0 := by
      unfold clipM
      split <;> split <;> omega
    rw [hc]
    split
    · unfold totW; simp
    · have : totW [] = 0 := rfl
      omega
theorem totW_start {tr : List (List Int)} (h : tr.all lawfulB = true) : ∀ k, k ≤ tr.length → totW (startW tr k) = allSum tr k
  | 0, _ => rfl
  | k + 1, hk => by
    have hl : tr[k]? = some tr[k] := List.getElem?_eq_getElem (by omega)
    have hgd : tr.getD k [] = tr[k] := by rw [List.getD_eq_getElem?_getD, hl]; rfl
    have h1 := lawful_at h hl
    rw [startW_succ, totW_app, totW_start h k (by omega), allSum, hgd, totW_rowM k h1.2 _ (Nat.le_refl _), Nat.min_eq_left (by omega)]
theorem NotMuch.most {n : MNet} {tr : List (List Int)} (h : NotMuch n tr) (hv : netB n = true) (hl : tr.length = n.flows.length) (hlaw : tr.all lawfulB = true) : totW (startW tr tr.length) ≤ 6000 ∧ n.gates.length ≤ 8 := by
  have h1 := netB_len hv
  have h2 := h.rows
  have h3 := h.gates
  have h4 := h.sum
  rw [Nat.min_eq_left (by omega)] at h4
  rw [totW_start hlaw _ (Nat.le_refl _)]
  omega
section
variable {A1 A2 : Option Addr} {c1 c2 : Nat} {n : MNet}
def MuchP (n : MNet) (tr : List (List Int)) (w : World) (e : Ending) (w' : World) : Prop := ∃ r, e = .returned (.bool r) ∧ (r = false → NotMuch n tr) ∧ Below w.heap.size w w'
set_option maxRecDepth 100000 in
set_option maxHeartbeats 4000000 in
theorem much_any (O : Option Addr) (cap : Nat) (tr : List (List Int)) (w : World) (h : NetA w w.heap.size A1 A2 n) (hT : RowsT w w.heap.size O tr) :
    Calls Try.prog 42 #[.agg #[.slice A1 n.gates.length c1, .slice A2 n.flows.length c2], .slice O tr.length cap] w (MuchP n tr w) := by
  have hE := NetEnv.make (c1 := c1) (c2 := c2) (t := 25) h
  obtain ⟨w1, hw1⟩ : ∃ w1, w.alloc (.cells #[.slice A1 n.gates.length c1, .slice A2 n.flows.length c2] 25) = w1 := ⟨_, rfl⟩
  rw [hw1] at hE
  have HB1 := Lib.hid hE.old
  have hT1 := hT.below hE.old (Nat.le_refl _)
  have HT := Lib.hid hT1
  have m0 := hE.c0
  have m1 := hE.c1
  have htl := hT.1
  have hgl := h.1
  unfold maxLen at htl hgl
  clear h hT hT1 hE
  go_enter Try.func42, Try.ntmps42
  go_upto_region 1 with fail
  (try rw [hw1])
  clear hw1
  obtain ⟨L, hL⟩ : ∃ L, tr.length = L := ⟨_, rfl⟩
  obtain ⟨G, hG⟩ : ∃ G, n.gates.length = G := ⟨_, rfl⟩
  have HL := Lib.hid hL
  have HG := Lib.hid hG
  rw [hL] at htl
  rw [hG] at hgl m0
  rw [hL]
  clear hL hG
  by_cases hbig : (8 < L ∧ L ≤ 40) ∨ (8 < G ∧ G ≤ 30)
  · by_cases a1 : 8 < L
    · by_cases a2 : L ≤ 40
      · go_wp2_with fail
        go_ret
        exact ⟨true, rfl, (fun h => by cases h), HB1.out⟩
      · have b1 : 8 < G := by omega
        have b2 : G ≤ 30 := by omega
        go_wp2_with fail
        go_ret
        exact ⟨true, rfl, (fun h => by cases h), HB1.out⟩
    · have b1 : 8 < G := by omega
      have b2 : G ≤ 30 := by omega
      go_wp2_with fail
      go_ret
      exact ⟨true, rfl, (fun h => by cases h), HB1.out⟩
  · have HLG : Hid ((L ≤ 8 ∨ 40 < L) ∧ (G ≤ 8 ∨ 30 < G)) := by show _ ∧ _; omega
    have HCASE : (¬ 8 < L ∧ ¬ 8 < G) ∨ (¬ 8 < L ∧ 8 < G ∧ ¬ G ≤ 30) ∨ ((8 < L ∧ ¬ L ≤ 40) ∧ ¬ 8 < G) ∨ ((8 < L ∧ ¬ L ≤ 40) ∧ 8 < G ∧ ¬ G ≤ 30) := by omega
    clear hbig
    rcases HCASE with ⟨ha, hb⟩ | ⟨ha, hb, hb'⟩ | ⟨⟨ha, ha'⟩, hb⟩ | ⟨⟨ha, ha'⟩, hb, hb'⟩
    all_goals
      go_wp2_with fail
      go_loopw [5, 6] (fun vsum vi wr => ∃ i : Nat, vi = .int .i64 i ∧ i ≤ L ∧ i ≤ 8 ∧ vsum = .int .i64 (allSum tr i) ∧ wr = w1) (fun _ vi _ => L - (intOf vi).toNat)
      case atStart => exact ⟨0, rfl, Nat.zero_le _, Nat.zero_le _, rfl, rfl⟩
      case round =>
        obtain ⟨i, rfl, hi, hi8, rfl, hw⟩ := hrel
        subst hw
        by_cases hlt : i < L
        · by_cases hlt8 : i < 8
          · obtain ⟨l, ab, ao, Ap, cp, hgi, hA, _, ac, hcp, hI⟩ := HT.out.at_ (k := i) (by rw [HL.out]; exact hlt)
            have hgd : tr.getD i [] = l := by rw [List.getD_eq_getElem?_getD, hgi]; rfl
            have HGD := Lib.hid hgd
            subst hA
            have hll := hI.1
            unfold maxLen at hll
            have hsb := allSum_bd tr i
            obtain ⟨sa, hsa⟩ : ∃ sa, allSum tr i = sa := ⟨_, rfl⟩
            have HSA := Lib.hid hsa
            rw [hsa] at hsb
            (try rw [hsa])
            have HI := Lib.hid hI
            obtain ⟨m, hm⟩ : ∃ m, l.length = m := ⟨_, rfl⟩
            have HM := Lib.hid hm
            rw [hm] at hll ac hcp
            clear hgi hgd hsa hI hm
            go_wp2_with fail
            go_loopw [5, 7] (fun vsum vk wx => ∃ k : Nat, vk = .int .i64 k ∧ k ≤ m ∧ k ≤ 65 ∧ vsum = .int .i64 (sa + rowSum l k) ∧ wx = wr) (fun _ vk _ => m - (intOf vk).toNat)
            case atStart => exact ⟨0, rfl, Nat.zero_le _, Nat.zero_le _, by rw [rowSum, Int.add_zero], rfl⟩
            case round =>
              obtain ⟨k, rfl, hk, hk8, rfl, hw⟩ := hrel
              subst hw
              by_cases hkl : k < m
              · by_cases hk65 : k ≤ 64
                · obtain ⟨xb, xo, hAp, _, yc⟩ := HI.out.at_ (k := k) (by rw [HM.out]; exact hkl)
                  subst hAp
                  obtain ⟨x, hx⟩ : ∃ x, l.getD k 0 = x := ⟨_, rfl⟩
                  rw [hx] at yc
                  have hrs := rowSum_bd l k
                  obtain ⟨rs, hrs'⟩ : ∃ rs, rowSum l k = rs := ⟨_, rfl⟩
                  rw [hrs'] at hrs
                  (try rw [hrs'])
                  have HN : Hid (rowSum l (k + 1) = rs + clipM x) := by show _ = _; rw [rowSum, hrs', hx]
                  have hcb := clipM_bd x
                  obtain ⟨cm, hcm⟩ : ∃ cm, clipM x = cm := ⟨_, rfl⟩
                  have HCM : Hid ((if 0 < (if 1000 < x then 1000 else x) then (if 1000 < x then 1000 else x) else 0) = cm) := hcm
                  rw [hcm] at HN hcb
                  have e1 : IntKind.i64.wrap (sa + rs + cm) = sa + rs + cm := IntWalk.i64_in _ (by omega)
                  clear hx hrs' hcm
                  go_wp2_with fail
                  go_roundw
                  case rel => exact ⟨k + 1, by go_num, by omega, by omega, by rw [HN.out, HCM.out, Int.add_assoc], by first | rfl | trivial⟩
                  case measure => simp [intOf]; omega
                · have hk65' : k = 65 := by omega
                  subst hk65'
                  go_wp2_with fail
                  go_roundw
                  case rel => exact ⟨i + 1, by go_num, by omega, by omega, by rw [allSum, HGD.out, HM.out, HSA.out, Nat.min_eq_right (by omega)], by first | rfl | trivial⟩
                  case measure => simp [intOf]; omega
              · obtain rfl : k = m := by omega
                go_wp2_with fail
                go_roundw
                case rel => exact ⟨i + 1, by go_num, by omega, by omega, by rw [allSum, HGD.out, HM.out, HSA.out, Nat.min_eq_left (by omega)], by first | rfl | trivial⟩
                case measure => simp [intOf]; omega
          · have h8 : i = 8 := by omega
            subst h8
            have HSM : Hid (allSum tr (min tr.length 8) = allSum tr 8) := by show _ = _; rw [Nat.min_eq_right (by rw [HL.out]; omega)]
            first
              | (exfalso; omega)
              | (go_wp2_with fail
                 go_ret
                 exact ⟨_, rfl, fun h => ⟨by rw [HL.out]; exact HLG.out.1, by rw [HG.out]; exact HLG.out.2, by rw [HSM.out]; have := of_decide_eq_false h; omega⟩, HB1.out⟩)
        · obtain rfl : i = L := by omega
          have HSM : Hid (allSum tr (min tr.length 8) = allSum tr i) := by show _ = _; rw [HL.out, Nat.min_eq_left (by omega)]
          go_wp2_with fail
          go_ret
          exact ⟨_, rfl, fun h => ⟨by rw [HL.out]; exact HLG.out.1, by rw [HG.out]; exact HLG.out.2, by rw [HSM.out]; have := of_decide_eq_false h; omega⟩, HB1.out⟩
end
end Go.Proofs.Ytlbbhlkbhegegaa
