/- Plain: when a tree is right, in both ways; the walk down a tree. -/
import Derived.Test.YtonpemikodajdaaDoorRb
namespace Go.Proofs.YtonpemikodajdaaDoor

abbrev NN := Nat → Nat
def updN (S : NN) (n x : Nat) : NN := fun m => if m = n then x else S m
theorem updN_self (S : NN) (n x : Nat) : updN S n x n = x := if_pos rfl
theorem updN_ne (S : NN) {n m : Nat} (x : Nat) (h : m ≠ n) : updN S n x m = S m := if_neg h
def fk (F : List MFork) (i : Nat) : MFork := F.getD i dFork
/-! ### the program's -/
def inN (i N : Nat) (n : Int) : Prop := (i : Int) + 1 ≤ n ∧ n ≤ (N : Int) - 1
instance (i N : Nat) (n : Int) : Decidable (inN i N n) := inferInstanceAs (Decidable (_ ∧ _))
def pKid (N i x : Nat) (n : Int) (S : NN) : Option NN :=
  if x = 0 then (if n = -1 then some S else none)
  else if inN i N n ∧ S n.toNat = 0 then some (updN S n.toNat x) else none
def pKids (N i : Nat) (X : NN) (next : List Int) : Nat → NN → Option NN
  | 0, S => some S
  | k + 1, S => (pKids N i X next k S).bind (pKid N i (X k) (next.getD k 0))
def forkR (c : MCase) (f : MFork) (s : Nat) : Prop := 0 ≤ f.test ∧ f.test < c.tests.length ∧ f.next.length = 4 ∧ 2 ≤ partsTo (testAt c f.test).outs s 4
instance (c : MCase) (f : MFork) (s : Nat) : Decidable (forkR c f s) := inferInstanceAs (Decidable (_ ∧ _ ∧ _ ∧ _))
def leafR (c : MCase) (f : MFork) (s : Nat) : Prop := f.next.length = 0 ∧ alikeB c s (-1) = true
instance (c : MCase) (f : MFork) (s : Nat) : Decidable (leafR c f s) := inferInstanceAs (Decidable (_ ∧ _))
def pFork (c : MCase) (F : List MFork) (i : Nat) (S : NN) : Option NN :=
  if S i = 0 ∨ (fk F i).set ≠ bitsI (S i) then none
  else if (fk F i).test = -1 then (if leafR c (fk F i) (S i) then some S else none)
  else if forkR c (fk F i) (S i) then pKids F.length i (partS (testAt c (fk F i).test).outs (S i)) (fk F i).next 4 S
  else none
def root0 (c : MCase) : NN := fun n => if n = 0 then fullS c else 0
def pTo (c : MCase) (F : List MFork) : Nat → Option NN
  | 0 => some (root0 c)
  | i + 1 => (pTo c F i).bind (pFork c F i)
/-! ### the reference's -/
def rKid (F : List MFork) (i x : Nat) (n : Int) (q : NN × NN) : Option (NN × NN) :=
  if x = 0 then (if n = -1 then some q else none)
  else if inN i F.length n ∧ (fk F n.toNat).set = bitsI x then some (updN q.1 n.toNat (q.1 n.toNat + 1), updN q.2 n.toNat x) else none
def rKids (F : List MFork) (i : Nat) (X : NN) (next : List Int) : Nat → NN × NN → Option (NN × NN)
  | 0, q => some q
  | k + 1, q => (rKids F i X next k q).bind (rKid F i (X k) (next.getD k 0))
def rFork (c : MCase) (F : List MFork) (i : Nat) (q : NN × NN) : Option (NN × NN) :=
  if 0 < i ∧ q.1 i ≠ 1 then none
  else if (fk F i).test = -1 then (if leafR c (fk F i) (q.2 i) then some q else none)
  else if forkR c (fk F i) (q.2 i) then rKids F i (partS (testAt c (fk F i).test).outs (q.2 i)) (fk F i).next 4 q
  else none
def rTo (c : MCase) (F : List MFork) : Nat → Option (NN × NN)
  | 0 => some (fun _ => 0, root0 c)
  | i + 1 => (rTo c F i).bind (rFork c F i)
/-! ### what is laid stays -/
theorem pKid_stay {N i x : Nat} {n : Int} {S S' : NN} (h : pKid N i x n S = some S') {m : Nat} (hm : S m ≠ 0) : S' m = S m := by
  unfold pKid at h
  split at h
  · split at h
    · injection h with h; rw [h]
    · cases h
  · split at h
    · rename_i hn
      injection h with h
      rw [← h]
      exact updN_ne S x fun e => hm (e ▸ hn.2)
    · cases h
theorem pKids_stay {N i : Nat} {X : NN} {next : List Int} : ∀ {k : Nat} {S S' : NN}, pKids N i X next k S = some S' → ∀ {m : Nat}, S m ≠ 0 → S' m = S m
  | 0, S, S', h, m, hm => by
    injection h with h; rw [h]
  | k + 1, S, S', h, m, hm => by
    unfold pKids at h
    rw [Option.bind_eq_some_iff] at h
    obtain ⟨S1, h1, h2⟩ := h
    have e := pKids_stay h1 hm
    exact (pKid_stay h2 (by rw [e]; exact hm)).trans e
theorem pFork_stay {c : MCase} {F : List MFork} {i : Nat} {S S' : NN} (h : pFork c F i S = some S') {m : Nat} (hm : S m ≠ 0) : S' m = S m := by
  unfold pFork at h
  split at h
  · cases h
  · split at h
    · split at h
      · injection h with h; rw [h]
      · cases h
    · split at h
      · exact pKids_stay h hm
      · cases h
theorem pTo_down {c : MCase} {F : List MFork} : ∀ {j : Nat} {S : NN}, pTo c F j = some S → ∀ {i : Nat}, i ≤ j → ∃ S', pTo c F i = some S' ∧ ∀ m, S' m ≠ 0 → S m = S' m
  | 0, S, h, i, hi => by
    obtain rfl : i = 0 := by omega
    exact ⟨S, h, fun _ _ => rfl⟩
  | j + 1, S, h, i, hi => by
    by_cases e : i = j + 1
    · subst e
      exact ⟨S, h, fun _ _ => rfl⟩
    · have h0 := h
      unfold pTo at h
      rw [Option.bind_eq_some_iff] at h
      obtain ⟨S1, h1, h2⟩ := h
      obtain ⟨S', h3, h4⟩ := pTo_down h1 (i := i) (by omega)
      exact ⟨S', h3, fun m hm => by
        have e := h4 m hm
        rw [pFork_stay h2 (by rw [e]; exact hm), e]⟩
theorem rKid_le {F : List MFork} {i x : Nat} {n : Int} {q q' : NN × NN} (h : rKid F i x n q = some q') (m : Nat) : q.1 m ≤ q'.1 m := by
  unfold rKid at h
  split at h
  · split at h
    · injection h with h; rw [h]; exact Nat.le_refl _
    · cases h
  · split at h
    · injection h with h
      rw [← h]
      show _ ≤ updN _ _ _ m
      unfold updN
      split
      · rename_i e; subst e; omega
      · exact Nat.le_refl _
    · cases h
theorem rKids_le {F : List MFork} {i : Nat} {X : NN} {next : List Int} : ∀ {k : Nat} {q q' : NN × NN}, rKids F i X next k q = some q' → ∀ m, q.1 m ≤ q'.1 m
  | 0, q, q', h, m => by
    injection h with h; rw [h]; exact Nat.le_refl _
  | k + 1, q, q', h, m => by
    unfold rKids at h
    rw [Option.bind_eq_some_iff] at h
    obtain ⟨q1, h1, h2⟩ := h
    exact Nat.le_trans (rKids_le h1 m) (rKid_le h2 m)
theorem rFork_le {c : MCase} {F : List MFork} {i : Nat} {q q' : NN × NN} (h : rFork c F i q = some q') (m : Nat) : q.1 m ≤ q'.1 m := by
  unfold rFork at h
  split at h
  · cases h
  · split at h
    · split at h
      · injection h with h; rw [h]; exact Nat.le_refl _
      · cases h
    · split at h
      · exact rKids_le h m
      · cases h
theorem rTo_down {c : MCase} {F : List MFork} : ∀ {j : Nat} {q : NN × NN}, rTo c F j = some q → ∀ {i : Nat}, i ≤ j → ∃ q', rTo c F i = some q' ∧ ∀ m, q'.1 m ≤ q.1 m
  | 0, q, h, i, hi => by
    obtain rfl : i = 0 := by omega
    exact ⟨q, h, fun _ => Nat.le_refl _⟩
  | j + 1, q, h, i, hi => by
    by_cases e : i = j + 1
    · subst e
      exact ⟨q, h, fun _ => Nat.le_refl _⟩
    · unfold rTo at h
      rw [Option.bind_eq_some_iff] at h
      obtain ⟨q1, h1, h2⟩ := h
      obtain ⟨q', h3, h4⟩ := rTo_down h1 (i := i) (by omega)
      exact ⟨q', h3, fun m => Nat.le_trans (h4 m) (rFork_le h2 m)⟩
/-! ### from the one to the other -/
def matA (A S : NN) : Prop := ∀ m, 0 < m → A m = if S m = 0 then 0 else 1
theorem kids_fwd {F : List MFork} {i : Nat} {X : NN} {next : List Int} : ∀ {k : Nat} {A S S' : NN}, pKids F.length i X next k S = some S' → (∀ m, m < F.length → S' m ≠ 0 → (fk F m).set = bitsI (S' m)) → matA A S → ∃ A', rKids F i X next k (A, S) = some (A', S') ∧ matA A' S'
  | 0, A, S, S', h, _, hm => by
    injection h with h; subst h
    exact ⟨A, rfl, hm⟩
  | k + 1, A, S, S', h, hs, hm => by
    unfold pKids at h
    rw [Option.bind_eq_some_iff] at h
    obtain ⟨S1, h1, h2⟩ := h
    obtain ⟨A1, h3, hm1⟩ := kids_fwd h1 (fun m hml h0 => by
      have e := pKid_stay h2 h0
      rw [← e]
      exact hs m hml (by rw [e]; exact h0)) hm
    unfold rKids
    rw [h3]
    show ∃ A', rKid F i (X k) (next.getD k 0) (A1, S1) = some (A', S') ∧ matA A' S'
    unfold pKid at h2
    unfold rKid
    by_cases hx : X k = 0
    · rw [if_pos hx] at h2 ⊢
      split at h2
      · rename_i hn
        injection h2 with h2; subst h2
        rw [if_pos hn]
        exact ⟨A1, rfl, hm1⟩
      · cases h2
    · rw [if_neg hx] at h2 ⊢
      split at h2
      · rename_i hn
        injection h2 with h2
        have hlt : (next.getD k 0).toNat < F.length := by have := hn.1.1; have := hn.1.2; omega
        have hpos : 0 < (next.getD k 0).toNat := by have := hn.1.1; omega
        have hset := hs _ hlt (by rw [← h2, updN_self]; exact hx)
        rw [← h2, updN_self] at hset
        rw [if_pos ⟨hn.1, hset⟩]
        refine ⟨_, by rw [← h2], fun m hm0 => ?_⟩
        show updN A1 _ _ m = _
        rw [← h2]
        unfold updN
        by_cases e : m = (next.getD k 0).toNat
        · rw [if_pos e, if_pos e, if_neg hx]
          show A1 (next.getD k 0).toNat + 1 = 1
          rw [hm1 _ hpos, if_pos hn.2]
        · rw [if_neg e, if_neg e]
          exact hm1 m hm0
      · cases h2
theorem to_fwd {c : MCase} {F : List MFork} {S9 : NN} (h9 : pTo c F F.length = some S9) : (∀ m, m < F.length → S9 m ≠ 0 ∧ (fk F m).set = bitsI (S9 m)) ∧ ∀ {i : Nat}, i ≤ F.length → ∀ {S : NN}, pTo c F i = some S → ∃ A, rTo c F i = some (A, S) ∧ matA A S := by
  have hset : ∀ m, m < F.length → S9 m ≠ 0 ∧ (fk F m).set = bitsI (S9 m) := fun m hm => by
    obtain ⟨S', h1, h2⟩ := pTo_down h9 (i := m + 1) (by omega)
    unfold pTo at h1
    rw [Option.bind_eq_some_iff] at h1
    obtain ⟨S1, h3, h4⟩ := h1
    have h5 := h4
    unfold pFork at h4
    split at h4
    · cases h4
    · rename_i hn
      have hn0 : S1 m ≠ 0 := fun e => hn (.inl e)
      have e : S9 m = S1 m := (h2 m (by rw [pFork_stay h5 hn0]; exact hn0)).trans (pFork_stay h5 hn0)
      rw [e]
      exact ⟨hn0, Classical.not_not.1 fun e => hn (.inr e)⟩
  refine ⟨hset, fun {i} => ?_⟩
  induction i with
  | zero =>
    intro _ S h
    injection h with h; subst h
    exact ⟨fun _ => 0, rfl, fun m hm => by unfold root0; rw [if_neg (show ¬ m = 0 by omega), if_pos rfl]⟩
  | succ i ih =>
    intro hi S h
    have h0 := h
    unfold pTo at h
    rw [Option.bind_eq_some_iff] at h
    obtain ⟨S1, h1, h2⟩ := h
    obtain ⟨A1, h3, hm1⟩ := ih (by omega) h1
    have h6 := h2
    unfold rTo
    rw [h3]
    show ∃ A, rFork c F i (A1, S1) = some (A, S) ∧ matA A S
    unfold pFork at h2
    unfold rFork
    split at h2
    · cases h2
    · rename_i hn
      have hn0 : S1 i ≠ 0 := fun e => hn (.inl e)
      rw [if_neg (fun hx => hx.2 (by show A1 i = 1; rw [hm1 i hx.1, if_neg hn0]))]
      split at h2
      · rename_i ht
        rw [if_pos ht]
        split at h2
        · rename_i hl
          injection h2 with h2; subst h2
          exact ⟨A1, if_pos hl, hm1⟩
        · cases h2
      · rename_i ht
        rw [if_neg ht]
        split at h2
        · rename_i hf
          rw [if_pos (show forkR c (fk F i) (S1 i) from hf)]
          refine kids_fwd h2 (fun m hml h0' => ?_) hm1
          obtain ⟨S', h7, h8⟩ := pTo_down h9 hi
          rw [h0] at h7
          injection h7 with h7
          subst h7
          rw [← h8 m h0']
          exact (hset m hml).2
        · cases h2
theorem kids_bwd {F : List MFork} {i : Nat} {X : NN} {next : List Int} : ∀ {k : Nat} {A S : NN} {q : NN × NN}, rKids F i X next k (A, S) = some q → (∀ m, i < m → m < F.length → q.1 m ≤ 1) → matA A S → pKids F.length i X next k S = some q.2 ∧ matA q.1 q.2
  | 0, A, S, q, h, _, hm => by
    injection h with h; subst h
    exact ⟨rfl, hm⟩
  | k + 1, A, S, q, h, hs, hm => by
    unfold rKids at h
    rw [Option.bind_eq_some_iff] at h
    obtain ⟨q1, h1, h2⟩ := h
    obtain ⟨h3, hm1⟩ := kids_bwd h1 (fun m h0 h0' => Nat.le_trans (rKid_le h2 m) (hs m h0 h0')) hm
    unfold pKids
    rw [h3]
    show pKid F.length i (X k) (next.getD k 0) q1.2 = some q.2 ∧ matA q.1 q.2
    unfold rKid at h2
    unfold pKid
    by_cases hx : X k = 0
    · rw [if_pos hx] at h2 ⊢
      split at h2
      · rename_i hn
        injection h2 with h2; subst h2
        exact ⟨if_pos hn, hm1⟩
      · cases h2
    · rw [if_neg hx] at h2 ⊢
      split at h2
      · rename_i hn
        injection h2 with h2
        have hlt : (next.getD k 0).toNat < F.length := by have := hn.1.1; have := hn.1.2; omega
        have hpos : i < (next.getD k 0).toNat := by have := hn.1.1; omega
        have hone := hs _ hpos hlt
        rw [← h2] at hone
        have hone : updN q1.1 (next.getD k 0).toNat (q1.1 (next.getD k 0).toNat + 1) (next.getD k 0).toNat ≤ 1 := hone
        rw [updN_self] at hone
        have hz : q1.2 (next.getD k 0).toNat = 0 := by
          have := hm1 (next.getD k 0).toNat (by omega)
          split at this
          · assumption
          · omega
        rw [if_pos ⟨hn.1, hz⟩, ← h2]
        refine ⟨rfl, fun m hm0 => ?_⟩
        show updN _ _ _ m = if updN _ _ _ m = 0 then 0 else 1
        unfold updN
        by_cases e : m = (next.getD k 0).toNat
        · rw [if_pos e, if_pos e, if_neg hx, hm1 _ (by omega), if_pos hz]
        · rw [if_neg e, if_neg e]
          exact hm1 m hm0
      · cases h2
/-- where a set was seen by a fork above, it is the set laid -/
def seenA (F : List MFork) (q : NN × NN) : Prop := ∀ m, (m = 0 ∨ 0 < q.1 m) → (fk F m).set = bitsI (q.2 m) ∧ q.2 m ≠ 0
theorem rKid_seen {F : List MFork} {i x : Nat} {n : Int} {q q' : NN × NN} (h : rKid F i x n q = some q') (hs : seenA F q) : seenA F q' := by
  unfold rKid at h
  by_cases hx : x = 0
  · rw [if_pos hx] at h
    split at h
    · injection h with h; rw [← h]; exact hs
    · cases h
  · rw [if_neg hx] at h
    split at h
    · rename_i hn
      injection h with h
      rw [← h]
      intro m hm
      have hm : m = 0 ∨ 0 < updN q.1 n.toNat (q.1 n.toNat + 1) m := hm
      show (fk F m).set = bitsI (updN q.2 n.toNat x m) ∧ updN q.2 n.toNat x m ≠ 0
      unfold updN at hm ⊢
      by_cases e : m = n.toNat
      · rw [if_pos e, e]
        exact ⟨hn.2, hx⟩
      · rw [if_neg e] at hm ⊢
        exact hs m hm
    · cases h
theorem rKids_seen {F : List MFork} {i : Nat} {X : NN} {next : List Int} : ∀ {k : Nat} {q q' : NN × NN}, rKids F i X next k q = some q' → seenA F q → seenA F q'
  | 0, q, q', h, hs => by
    injection h with h; rw [← h]; exact hs
  | k + 1, q, q', h, hs => by
    unfold rKids at h
    rw [Option.bind_eq_some_iff] at h
    obtain ⟨q1, h1, h2⟩ := h
    exact rKid_seen h2 (rKids_seen h1 hs)
theorem rFork_seen {c : MCase} {F : List MFork} {i : Nat} {q q' : NN × NN} (h : rFork c F i q = some q') (hs : seenA F q) : seenA F q' := by
  unfold rFork at h
  split at h
  · cases h
  · split at h
    · split at h
      · injection h with h; rw [← h]; exact hs
      · cases h
    · split at h
      · exact rKids_seen h hs
      · cases h
theorem fullS_pos (c : MCase) (h1 : 1 ≤ c.weights.length) : fullS c ≠ 0 := by
  have h2 : 2 ^ 1 ≤ 2 ^ c.weights.length := Nat.pow_le_pow_right (by omega) h1
  unfold fullS
  omega
theorem rTo_seen {c : MCase} {F : List MFork} (h1 : 1 ≤ c.weights.length) (h0 : (fk F 0).set = bitsI (fullS c)) : ∀ {i : Nat} {q : NN × NN}, rTo c F i = some q → seenA F q
  | 0, q, h => by
    injection h with h
    rw [← h]
    intro m hm
    obtain rfl : m = 0 := by
      rcases hm with hm | hm
      · exact hm
      · exact absurd hm (Nat.lt_irrefl 0)
    exact ⟨h0, fullS_pos c h1⟩
  | i + 1, q, h => by
    unfold rTo at h
    rw [Option.bind_eq_some_iff] at h
    obtain ⟨q1, h2, h3⟩ := h
    exact rFork_seen h3 (rTo_seen h1 h0 h2)
theorem rFork_one {c : MCase} {F : List MFork} {i : Nat} {q q' : NN × NN} (h : rFork c F i q = some q') (hi : 0 < i) : q.1 i = 1 := by
  unfold rFork at h
  split at h
  · cases h
  · rename_i hn
    exact Classical.not_not.1 fun e => hn ⟨hi, e⟩
theorem to_bwd {c : MCase} {F : List MFork} (h1 : 1 ≤ c.weights.length) (h0 : (fk F 0).set = bitsI (fullS c)) {q9 : NN × NN} (h9 : rTo c F F.length = some q9) : ∀ {i : Nat}, i ≤ F.length → ∀ {q : NN × NN}, rTo c F i = some q → pTo c F i = some q.2 ∧ matA q.1 q.2
  | 0, _, q, h => by
    injection h with h; subst h
    exact ⟨rfl, fun m hm => by show 0 = if root0 c m = 0 then 0 else 1; unfold root0; rw [if_neg (show ¬ m = 0 by omega), if_pos rfl]⟩
  | i + 1, hi, q, h => by
    have hone : ∀ m, i < m → m < F.length → q.1 m ≤ 1 := fun m hm hml => by
      obtain ⟨q8, h7, _⟩ := rTo_down h9 (i := m + 1) (by omega)
      unfold rTo at h7
      rw [Option.bind_eq_some_iff] at h7
      obtain ⟨q7, h5, h6⟩ := h7
      have e := rFork_one h6 (by omega)
      obtain ⟨q6, h3, h4⟩ := rTo_down h5 (i := i + 1) (by omega)
      rw [h] at h3
      injection h3 with h3
      subst h3
      have := h4 m
      omega
    unfold rTo at h
    rw [Option.bind_eq_some_iff] at h
    obtain ⟨q1, h2, h3⟩ := h
    obtain ⟨h4, hm1⟩ := to_bwd h1 h0 h9 (i := i) (by omega) h2
    have hsee := rTo_seen h1 h0 h2
    have h6 := h3
    unfold pTo
    rw [h4]
    show pFork c F i q1.2 = some q.2 ∧ matA q.1 q.2
    unfold rFork at h3
    unfold pFork
    split at h3
    · cases h3
    · rename_i hn
      have hs := hsee i (by
        rcases Nat.eq_zero_or_pos i with e | e
        · exact .inl e
        · exact .inr (by rw [rFork_one h6 e]; omega))
      rw [if_neg (fun hx => hx.elim hs.2 (fun e => e hs.1))]
      split at h3
      · rename_i ht
        rw [if_pos ht]
        split at h3
        · rename_i hl
          injection h3 with h3; subst h3
          exact ⟨if_pos hl, hm1⟩
        · cases h3
      · rename_i ht
        rw [if_neg ht]
        split at h3
        · rename_i hf
          rw [if_pos hf]
          exact kids_bwd h3 hone hm1
        · cases h3
def rightB (c : MCase) (F : List MFork) : Bool := decide (1 ≤ F.length ∧ F.length ≤ 5000) && (pTo c F F.length).isSome
def rrightB (c : MCase) (F : List MFork) : Bool := decide (1 ≤ F.length ∧ F.length ≤ 5000) && (decide ((fk F 0).set = bitsI (fullS c)) && (rTo c F F.length).isSome)
theorem right_eq {c : MCase} (h1 : 1 ≤ c.weights.length) (F : List MFork) : rrightB c F = rightB c F := by
  unfold rrightB rightB
  by_cases hl : 1 ≤ F.length ∧ F.length ≤ 5000
  · rw [decide_eq_true hl, Bool.true_and, Bool.true_and, Bool.eq_iff_iff, Bool.and_eq_true, decide_eq_true_eq, Option.isSome_iff_exists, Option.isSome_iff_exists]
    constructor
    · rintro ⟨h0, q, hq⟩
      exact ⟨q.2, (to_bwd h1 h0 hq (Nat.le_refl _) hq).1⟩
    · rintro ⟨S, hS⟩
      obtain ⟨hset, hf⟩ := to_fwd hS
      obtain ⟨A, hA, _⟩ := hf (Nat.le_refl _) hS
      refine ⟨?_, _, hA⟩
      obtain ⟨S', h2, h3⟩ := pTo_down hS (Nat.zero_le _)
      injection h2 with h2
      have h4 : S' 0 = fullS c := by rw [← h2]; exact if_pos rfl
      rw [(hset 0 (by omega)).2, h3 0 (by rw [h4]; exact fullS_pos c h1), h4]
  · rw [decide_eq_false hl, Bool.false_and, Bool.false_and]
/-! ### a right tree -/
structure TreeOk (c : MCase) (F : List MFork) (S : NN) : Prop where
  n1 : 1 ≤ F.length
  n2 : F.length ≤ 5000
  root : S 0 = fullS c
  set : ∀ i, i < F.length → (fk F i).set = bitsI (S i)
  ne : ∀ i, i < F.length → S i ≠ 0
  leaf : ∀ i, i < F.length → (fk F i).test = -1 → leafR c (fk F i) (S i)
  node : ∀ i, i < F.length → (fk F i).test ≠ -1 → forkR c (fk F i) (S i)
  no : ∀ i, i < F.length → (fk F i).test ≠ -1 → ∀ k, k < 4 → partS (testAt c (fk F i).test).outs (S i) k = 0 → (fk F i).next.getD k 0 = -1
  yes : ∀ i, i < F.length → (fk F i).test ≠ -1 → ∀ k, k < 4 → partS (testAt c (fk F i).test).outs (S i) k ≠ 0 → inN i F.length ((fk F i).next.getD k 0) ∧ S ((fk F i).next.getD k 0).toNat = partS (testAt c (fk F i).test).outs (S i) k
theorem pKids_at {N i : Nat} {X : NN} {next : List Int} : ∀ {k : Nat} {S S' : NN}, pKids N i X next k S = some S' → ∀ j, j < k → (X j = 0 → next.getD j 0 = -1) ∧ (X j ≠ 0 → inN i N (next.getD j 0) ∧ S' (next.getD j 0).toNat = X j)
  | 0, _, _, _, j, hj => by omega
  | k + 1, S, S', h, j, hj => by
    unfold pKids at h
    rw [Option.bind_eq_some_iff] at h
    obtain ⟨S1, h1, h2⟩ := h
    by_cases e : j = k
    · subst e
      unfold pKid at h2
      by_cases hx : X j = 0
      · rw [if_pos hx] at h2
        split at h2
        · rename_i hn
          exact ⟨fun _ => hn, fun h => absurd hx h⟩
        · cases h2
      · rw [if_neg hx] at h2
        split at h2
        · rename_i hn
          injection h2 with h2
          exact ⟨fun h => absurd h hx, fun _ => ⟨hn.1, by rw [← h2, updN_self]⟩⟩
        · cases h2
    · have ih := pKids_at h1 j (by omega)
      refine ⟨ih.1, fun hx => ⟨(ih.2 hx).1, ?_⟩⟩
      rw [← (ih.2 hx).2]
      exact pKid_stay h2 (by rw [(ih.2 hx).2]; exact hx)
theorem tree_okS {c : MCase} {F : List MFork} {S : NN} (h1 : 1 ≤ c.weights.length) (hl : 1 ≤ F.length ∧ F.length ≤ 5000) (hS : pTo c F F.length = some S) : TreeOk c F S := by
  have hset := (to_fwd hS).1
  have hat : ∀ i, i < F.length → ∃ S1 S2, pFork c F i S1 = some S2 ∧ S1 i = S i ∧ ∀ m, S2 m ≠ 0 → S m = S2 m := fun i hi => by
    obtain ⟨S', h2, h3⟩ := pTo_down hS (i := i + 1) (by omega)
    unfold pTo at h2
    rw [Option.bind_eq_some_iff] at h2
    obtain ⟨S1, h4, h5⟩ := h2
    have hn0 : S1 i ≠ 0 := fun e => by
      unfold pFork at h5
      rw [if_pos (.inl e)] at h5
      cases h5
    refine ⟨S1, S', h5, ?_, h3⟩
    have e := pFork_stay h5 hn0
    rw [h3 i (by rw [e]; exact hn0), e]
  refine ⟨hl.1, hl.2, ?_, fun i hi => (hset i hi).2, fun i hi => (hset i hi).1, fun i hi ht => ?_, fun i hi ht => ?_, fun i hi ht k hk hx => ?_, fun i hi ht k hk hx => ?_⟩
  · obtain ⟨S', h2, h3⟩ := pTo_down hS (Nat.zero_le _)
    injection h2 with h2
    have h4 : S' 0 = fullS c := by rw [← h2]; exact if_pos rfl
    rw [h3 0 (by rw [h4]; exact fullS_pos c h1), h4]
  all_goals
    obtain ⟨S1, S2, h2, e, h3⟩ := hat i hi
    unfold pFork at h2
    split at h2
    · cases h2
    · rw [e] at h2
      first | rw [if_pos ht] at h2 | rw [if_neg ht] at h2 | skip
      split at h2
      · rename_i hl
        first | exact hl | exact (pKids_at h2 k hk).1 hx | skip
        try
          obtain ⟨h4, h5⟩ := (pKids_at h2 k hk).2 hx
          exact ⟨h4, (h3 _ (by rw [h5]; exact hx)).trans h5⟩
      · cases h2
end Go.Proofs.YtonpemikodajdaaDoor
