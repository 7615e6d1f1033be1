/- Plain: the search by breadth, step by step. -/
import Derived.Test.YtegclodchhcbaaaFl
namespace Go.Proofs.Ytegclodchhcbaaa

def setB (back : Nat → Int) (y : Nat) (v : Int) : Nat → Int := fun x => if x = y then v else back x
theorem setB_same (back : Nat → Int) (y : Nat) (v : Int) : setB back y v y = v := by unfold setB; rw [if_pos rfl]
theorem setB_ne {back : Nat → Int} {x y : Nat} {v : Int} (h : x ≠ y) : setB back y v x = back x := by unfold setB; rw [if_neg h]
/-- how many places are reached -/
def cntN (back : Nat → Int) : Nat → Nat
  | 0 => 0
  | n + 1 => cntN back n + (if 0 ≤ back n then 1 else 0)
theorem cntN_le (back : Nat → Int) : ∀ n, cntN back n ≤ n
  | 0 => Nat.le_refl _
  | n + 1 => by
    have := cntN_le back n
    rw [cntN]
    split <;> omega
theorem cntN_congr {back back' : Nat → Int} : ∀ {n : Nat}, (∀ x, x < n → back x = back' x) → cntN back n = cntN back' n
  | 0, _ => rfl
  | n + 1, h => by rw [cntN, cntN, cntN_congr (n := n) fun x hx => h x (by omega), h n (by omega)]
theorem cntN_set {back : Nat → Int} {y : Nat} {v : Int} (hb : back y < 0) (hv : 0 ≤ v) : ∀ {n : Nat}, y < n → cntN (setB back y v) n = cntN back n + 1
  | 0, h => by omega
  | n + 1, h => by
    rw [cntN, cntN]
    by_cases e : y = n
    · subst e
      rw [cntN_congr (n := y) (back := setB back y v) (back' := back) fun x hx => setB_ne (by omega), setB_same, if_pos hv, if_neg (by omega)]
    · rw [cntN_set hb hv (n := n) (by omega), setB_ne (by omega)]
      omega
structure BfsC (N : Nat) (c : Tab) (b : Nat) (back : Nat → Int) (Q : List Nat) : Prop where
  self : back b = b
  nn : ∀ x, x < N → -1 ≤ back x ∧ back x < N
  from' : ∃ rank : Nat → Nat, (∀ x, x < N → 0 ≤ back x → rank x < cntN back N) ∧ ∀ x, x < N → 0 ≤ back x → x ≠ b → 0 ≤ back (back x).toNat ∧ rank (back x).toNat < rank x ∧ 0 < c (back x).toNat x
  q : ∀ x ∈ Q, x < N ∧ 0 ≤ back x
  len : Q.length ≤ cntN back N
/-- between two rounds -/
structure Bfs (N : Nat) (c : Tab) (b : Nat) (back : Nat → Int) (Q : List Nat) : Prop where
  ok : BfsC N c b back Q
  done : ∀ x, x < N → 0 ≤ back x → x ∈ Q ∨ ∀ y, y < N → 0 < c x y → 0 ≤ back y
/-- within the round of a place, ahead of the number j -/
structure BfsM (N : Nat) (c : Tab) (b : Nat) (back : Nat → Int) (Q : List Nat) (at' j : Nat) : Prop where
  ok : BfsC N c b back Q
  lt : at' < N
  on : 0 ≤ back at'
  cur : ∀ y, y < j → 0 < c at' y → 0 ≤ back y
  done : ∀ x, x < N → 0 ≤ back x → x ∈ Q ∨ x = at' ∨ ∀ y, y < N → 0 < c x y → 0 ≤ back y
section
variable {N : Nat} {c : Tab} {b : Nat} {back : Nat → Int} {Q : List Nat} {at' j : Nat}
theorem Bfs.start (hb : b < N) : Bfs N c b (setB (fun _ => -1) b b) [b] := by
  have h0 : ∀ x, 0 ≤ setB (fun _ => -1) b b x → x = b := fun x hx => by
    rcases Nat.decEq x b with h | h
    · rw [setB_ne h] at hx; omega
    · exact h
  refine ⟨⟨setB_same _ _ _, fun x hx => ?_, ⟨fun _ => 0, fun x hx hr => ?_, fun x _ hr hn => absurd (h0 x hr) hn⟩, fun x hx => ?_, ?_⟩, fun x _ hr => .inl (by rw [h0 x hr]; exact List.mem_singleton.2 rfl)⟩
  · show -1 ≤ (if x = b then (b : Int) else -1) ∧ (if x = b then (b : Int) else -1) < N
    split <;> omega
  · have := cntN_set (back := fun _ => -1) (y := b) (v := b) (by decide) (by omega) hb
    show 0 < _
    omega
  · rw [List.mem_singleton.1 hx, setB_same]
    omega
  · have := cntN_set (back := fun _ => -1) (y := b) (v := b) (by decide) (by omega) hb
    show 1 ≤ _
    omega
theorem Bfs.pop (h : Bfs N c b back (at' :: Q)) : BfsM N c b back Q at' 0 := by
  have h1 := h.ok.q at' (List.mem_cons_self ..)
  refine ⟨⟨h.ok.self, h.ok.nn, h.ok.from', fun x hx => h.ok.q x (List.mem_cons_of_mem _ hx), by have := h.ok.len; simp only [List.length_cons] at this; omega⟩, h1.1, h1.2, fun y hy => by omega, fun x hx hr => ?_⟩
  rcases h.done x hx hr with h2 | h2
  · rcases List.mem_cons.1 h2 with h3 | h3
    · exact .inr (.inl h3)
    · exact .inl h3
  · exact .inr (.inr h2)
theorem BfsM.skip (h : BfsM N c b back Q at' j) (hs : c at' j ≤ 0 ∨ 0 ≤ back j) : BfsM N c b back Q at' (j + 1) := by
  refine ⟨h.ok, h.lt, h.on, fun y hy hc => ?_, h.done⟩
  rcases Nat.lt_or_ge y j with hlt | hge
  · exact h.cur y hlt hc
  · obtain rfl : y = j := by omega
    rcases hs with hs | hs
    · omega
    · exact hs
theorem BfsM.take (h : BfsM N c b back Q at' j) (hj : j < N) (hc : 0 < c at' j) (hb : back j < 0) : BfsM N c b (setB back j at') (Q ++ [j]) at' (j + 1) := by
  have hon := h.on
  have hlt := h.lt
  have hcnt := cntN_set (v := at') hb (by omega) hj
  have hjb : j ≠ b := fun e => by have := h.ok.self; rw [e] at hb; omega
  have hja : at' ≠ j := fun e => by rw [e] at hon; omega
  have mono : ∀ x, 0 ≤ back x → 0 ≤ setB back j at' x := fun x hx => by
    unfold setB
    split
    · omega
    · exact hx
  have old : ∀ x, 0 ≤ setB back j at' x → x ≠ j → 0 ≤ back x := fun x hx hn => by rwa [setB_ne hn] at hx
  obtain ⟨rank, hr1, hr2⟩ := h.ok.from'
  refine ⟨⟨by rw [setB_ne (Ne.symm hjb)]; exact h.ok.self, fun x hx => ?_, ⟨fun x => if x = j then cntN back N else rank x, fun x hx hr => ?_, fun x hx hr hn => ?_⟩, fun x hx => ?_, by have := h.ok.len; simp only [List.length_append, List.length_cons, List.length_nil]; omega⟩, hlt, mono _ hon, fun y hy hcy => ?_, fun x hx hr => ?_⟩
  · have := h.ok.nn x hx
    unfold setB
    split <;> omega
  · rw [hcnt]
    show (if x = j then cntN back N else rank x) < _
    by_cases e : x = j
    · rw [if_pos e]; omega
    · rw [if_neg e]
      have := hr1 x hx (old x hr e)
      omega
  · show 0 ≤ setB back j at' (setB back j at' x).toNat ∧ (if (setB back j at' x).toNat = j then cntN back N else rank (setB back j at' x).toNat) < (if x = j then cntN back N else rank x) ∧ 0 < c (setB back j at' x).toNat x
    by_cases e : x = j
    · subst e
      rw [setB_same, if_pos rfl, show ((at' : Int)).toNat = at' from Int.toNat_natCast _, if_neg hja]
      exact ⟨mono _ hon, hr1 at' hlt hon, hc⟩
    · rw [setB_ne e, if_neg e]
      obtain ⟨h1, h2, h3⟩ := hr2 x hx (old x hr e) hn
      have hne : (back x).toNat ≠ j := fun e2 => by rw [e2] at h1; omega
      rw [if_neg hne]
      exact ⟨mono _ h1, h2, h3⟩
  · rcases List.mem_append.1 hx with hx | hx
    · exact ⟨(h.ok.q x hx).1, mono _ (h.ok.q x hx).2⟩
    · rw [List.mem_singleton.1 hx, setB_same]
      omega
  · rcases Nat.lt_or_ge y j with hlt | hge
    · exact mono _ (h.cur y hlt hcy)
    · obtain rfl : y = j := by omega
      rw [setB_same]
      omega
  · by_cases e : x = j
    · exact .inl (List.mem_append.2 (.inr (by rw [e]; exact List.mem_singleton.2 rfl)))
    · rcases h.done x hx (old x hr e) with h1 | h1 | h1
      · exact .inl (List.mem_append.2 (.inl h1))
      · exact .inr (.inl h1)
      · exact .inr (.inr fun y hy hcy => mono _ (h1 y hy hcy))
theorem BfsM.finish (h : BfsM N c b back Q at' N) : Bfs N c b back Q := by
  refine ⟨h.ok, fun x hx hr => ?_⟩
  rcases h.done x hx hr with h1 | h1 | h1
  · exact .inl h1
  · rw [h1]
    exact .inr fun y hy hcy => h.cur y hy hcy
  · exact .inr h1
theorem Bfs.backOk (h : Bfs N c b back []) : BackOk N c b back := by
  obtain ⟨rank, _, hr⟩ := h.ok.from'
  refine ⟨h.ok.self, h.ok.nn, ⟨rank, hr⟩, fun x y hx hy hr hc => ?_⟩
  rcases h.done x hx hr with h1 | h1
  · cases h1
  · exact h1 y hy hc
end
end Go.Proofs.Ytegclodchhcbaaa
