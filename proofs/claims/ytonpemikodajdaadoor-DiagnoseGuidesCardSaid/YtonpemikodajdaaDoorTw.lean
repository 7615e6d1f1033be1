/- Plain: what a right tree costs, fork by fork; none costs less than the best one. -/
import Derived.Test.YtonpemikodajdaaDoorTc
namespace Go.Proofs.YtonpemikodajdaaDoor
open Go.RowKit

/-! ### sums over suspects -/
def sumB (f : Nat → Int) : List Nat → Int
  | [] => 0
  | x :: l => f x + sumB f l
theorem sumB_app (f : Nat → Int) : ∀ l m, sumB f (l ++ m) = sumB f l + sumB f m
  | [], m => by show _ = 0 + _; rw [Int.zero_add]; rfl
  | x :: l, m => by
    show f x + sumB f (l ++ m) = f x + sumB f l + sumB f m
    rw [sumB_app f l m, Int.add_assoc]
theorem sumB_congr {f g : Nat → Int} : ∀ {l : List Nat}, (∀ x ∈ l, f x = g x) → sumB f l = sumB g l
  | [], _ => rfl
  | x :: l, h => by
    show f x + sumB f l = g x + sumB g l
    rw [h x (List.mem_cons_self ..), sumB_congr fun y hy => h y (List.mem_cons_of_mem _ hy)]
theorem sumB_add (f g : Nat → Int) : ∀ l, sumB (fun x => f x + g x) l = sumB f l + sumB g l
  | [] => rfl
  | x :: l => by
    show f x + g x + sumB (fun x => f x + g x) l = f x + sumB f l + (g x + sumB g l)
    rw [sumB_add f g l]
    omega
theorem sumB_nonneg {f : Nat → Int} : ∀ {l : List Nat}, (∀ x ∈ l, 0 ≤ f x) → 0 ≤ sumB f l
  | [], _ => Int.le_refl _
  | x :: l, h => by
    show 0 ≤ f x + sumB f l
    have := h x (List.mem_cons_self ..)
    have := sumB_nonneg fun y hy => h y (List.mem_cons_of_mem _ hy)
    omega
theorem sumB_weight (c : MCase) (k : Int) : ∀ l, sumB (fun x => c.weights.getD x 0 * k) l = k * weightL c.weights l
  | [] => by show (0 : Int) = k * 0; rw [Int.mul_zero]
  | x :: l => by
    show c.weights.getD x 0 * k + sumB _ l = k * (c.weights.getD x 0 + weightL c.weights l)
    rw [sumB_weight c k l, Int.mul_add, Int.mul_comm k (c.weights.getD x 0)]
/-- a sum, outcome by outcome -/
def splitB (f : Nat → Int) (g : Nat → Int) (l : List Nat) : Nat → Int
  | 0 => 0
  | k + 1 => splitB f g l k + sumB f (l.filter fun j => decide (g j = (k : Int)))
theorem splitB_cons (f g : Nat → Int) (x : Nat) (l : List Nat) : ∀ k, splitB f g (x :: l) k = splitB f g l k + if 0 ≤ g x ∧ g x < k then f x else 0
  | 0 => by rw [if_neg (by omega)]; rfl
  | k + 1 => by
    rw [splitB, splitB, splitB_cons f g x l k]
    by_cases h : g x = (k : Int)
    · have e : (x :: l).filter (fun j => decide (g j = (k : Int))) = x :: l.filter (fun j => decide (g j = (k : Int))) := List.filter_cons_of_pos (by simpa using h)
      rw [e, if_neg (show ¬ (0 ≤ g x ∧ g x < (k : Int)) by omega), if_pos (show 0 ≤ g x ∧ g x < ((k + 1 : Nat) : Int) by omega)]
      show _ + 0 + (f x + sumB f _) = _
      omega
    · have e : (x :: l).filter (fun j => decide (g j = (k : Int))) = l.filter (fun j => decide (g j = (k : Int))) := List.filter_cons_of_neg (by simpa using h)
      rw [e]
      by_cases h2 : 0 ≤ g x ∧ g x < k
      · rw [if_pos h2, if_pos (show 0 ≤ g x ∧ g x < ((k + 1 : Nat) : Int) by omega)]; omega
      · rw [if_neg h2, if_neg (show ¬ (0 ≤ g x ∧ g x < ((k + 1 : Nat) : Int)) by omega)]
        omega
theorem splitB_all (f g : Nat → Int) : ∀ l : List Nat, (∀ x ∈ l, 0 ≤ g x ∧ g x < 4) → splitB f g l 4 = sumB f l
  | [], _ => rfl
  | x :: l, h => by
    have h1 := h x (List.mem_cons_self ..)
    rw [splitB_cons, splitB_all f g l fun y hy => h y (List.mem_cons_of_mem _ hy), if_pos (by omega)]
    show _ = f x + sumB f l
    omega
/-! ### the cost from a fork on -/
def downT (c : MCase) (F : List MFork) (x i : Nat) : List Int := (walkN c F x F.length i).1
def costF (c : MCase) (F : List MFork) (S : NN) (i : Nat) : Int := sumB (fun x => payI c (c.weights.getD x 0) (downT c F x i)) (bitsOf (S i))
section
variable {c : MCase} {F : List MFork} {S : NN}
theorem walkN_down (hc : CaseOk c) (hT : TreeOk c F S) (hS : ∀ i, S i < 2 ^ c.weights.length) {x i : Nat} (hi : i < F.length) (hx : (S i).testBit x = true) :
    ∃ j, WalkR c F x i (downT c F x i) j ∧ ∀ t ∈ downT c F x i, ∃ k : Nat, t = (k : Int) ∧ k < c.tests.length := by
  obtain ⟨L, j, h1, h2, h3, h4, h5, h6⟩ := walk_ok hc hT hS F.length (i := i) (by omega) hi hx
  have e : walkN c F x F.length i = (L, j) := walkN_of h1 _ (by omega) (.inl (by omega))
  have e1 : downT c F x i = L := by unfold downT; rw [e]
  rw [e1]
  exact ⟨j, h1, h6⟩
theorem downT_leaf {x i : Nat} (hi : i < F.length) (ht : (fk F i).test = -1) : downT c F x i = [] := by
  unfold downT
  obtain ⟨n, hn⟩ : ∃ n, F.length = n + 1 := ⟨F.length - 1, by omega⟩
  rw [hn, walkN, if_pos (by omega)]
theorem downT_fork (hc : CaseOk c) (hT : TreeOk c F S) (hS : ∀ i, S i < 2 ^ c.weights.length) {x i : Nat} (hi : i < F.length) (hx : (S i).testBit x = true) (ht : (fk F i).test ≠ -1) : downT c F x i = (fk F i).test :: downT c F x (nextI c F x i) := by
  obtain ⟨t, o, p, hp⟩ := step_ok hc hT hS hi hx ht
  obtain ⟨L, j, h1, h2, h3, h4, h5, h6⟩ := walk_ok hc hT hS F.length (i := i) (by omega) hi hx
  have e : walkN c F x F.length i = (L, j) := walkN_of h1 _ (by omega) (.inl (by omega))
  obtain ⟨L', hL, h7⟩ := walkR_len h1 (by rw [hp.tv]; omega)
  have hup := hp.up
  have hlt := hp.lt
  have e' : walkN c F x F.length (nextI c F x i) = (L', j) := walkN_of h7 _ (by rw [hL, List.length_cons] at h5; omega) (.inl (by rw [hL, List.length_cons] at h5; omega))
  unfold downT
  rw [e, e', hL]
theorem mem_part {outs : List Int} {s o x : Nat} (hs : s < 4096) : x ∈ bitsOf (partS outs s o) ↔ x ∈ bitsOf s ∧ outs.getD x 0 = (o : Int) := by
  rw [bitsOf_part outs s o hs, List.mem_filter, decide_eq_true_eq]
theorem costF_leaf {i : Nat} (hi : i < F.length) (ht : (fk F i).test = -1) : costF c F S i = 0 := by
  unfold costF
  rw [sumB_congr (g := fun _ => 0) fun x _ => by rw [downT_leaf hi ht]; rfl]
  generalize bitsOf (S i) = l
  induction l with
  | nil => rfl
  | cons x l ih => show 0 + _ = _; rw [ih]; rfl
/-- the sum of what the sets below cost -/
def belowF (c : MCase) (F : List MFork) (S : NN) (i : Nat) (s : Nat) : Nat → Int
  | 0 => 0
  | o + 1 => belowF c F S i s o + if 0 < partS (testAt c (fk F i).test).outs s o then costF c F S ((fk F i).next.getD o 0).toNat else 0
theorem costF_fork (hc : CaseOk c) (hT : TreeOk c F S) (hS : ∀ i, S i < 2 ^ c.weights.length) {i : Nat} (hi : i < F.length) (ht : (fk F i).test ≠ -1) :
    costF c F S i = (testAt c (fk F i).test).cost * weightS c (S i) + belowF c F S i (S i) 4 := by
  have hs12 := pow12 hc.n2 (hS i)
  obtain ⟨hf1, hf2, hf3, _⟩ := hT.node i hi ht
  obtain ⟨t, htv⟩ : ∃ t : Nat, (fk F i).test = (t : Int) := ⟨(fk F i).test.toNat, by omega⟩
  have htl : t < c.tests.length := by omega
  have hpo := hc.p t _ (List.getElem?_eq_getElem htl)
  have hta : testAt c (fk F i).test = c.tests[t] := by rw [htv]; exact testAt_of (List.getElem?_eq_getElem htl)
  have hout : ∀ x ∈ bitsOf (S i), 0 ≤ (testAt c (fk F i).test).outs.getD x 0 ∧ (testAt c (fk F i).test).outs.getD x 0 < 4 := fun x hx => by
    have hxn := bits_lt (hS i) hx
    rw [hta]
    have := hpo.2.2 x (by omega)
    omega
  unfold costF weightS
  rw [sumB_congr (g := fun x => c.weights.getD x 0 * (testAt c (fk F i).test).cost + payI c (c.weights.getD x 0) (downT c F x (nextI c F x i))) fun x hx => by
    rw [downT_fork hc hT hS hi (mem_bitsOf.1 hx).2 ht]; rfl, sumB_add, sumB_weight]
  congr 1
  rw [← splitB_all _ (fun j => (testAt c (fk F i).test).outs.getD j 0) _ hout]
  have hk : ∀ k, k ≤ 4 → splitB (fun x => payI c (c.weights.getD x 0) (downT c F x (nextI c F x i))) (fun j => (testAt c (fk F i).test).outs.getD j 0) (bitsOf (S i)) k = belowF c F S i (S i) k := fun k => by
    induction k with
    | zero => exact fun _ => rfl
    | succ o ih =>
      intro ho
      rw [splitB, belowF, ih (by omega), ← bitsOf_part _ _ _ hs12]
      congr 1
      by_cases hx : 0 < partS (testAt c (fk F i).test).outs (S i) o
      · rw [if_pos hx]
        obtain ⟨⟨hy1, hy2⟩, hy3⟩ := hT.yes i hi ht o (by omega) (by omega)
        unfold costF
        rw [hy3]
        refine sumB_congr fun x hx => ?_
        have h1 := (mem_part hs12).1 hx
        have hnx : nextI c F x i = ((fk F i).next.getD o 0).toNat := by unfold nextI; rw [h1.2, Int.toNat_natCast]
        rw [hnx]
      · rw [if_neg hx, show partS (testAt c (fk F i).test).outs (S i) o = 0 by omega, bitsOf_zero]
        rfl
  exact hk 4 (Nat.le_refl _)
/-! ### the best choice -/
theorem pickS_least {B : Nat → Int × Int} {s : Nat} : ∀ {k j : Nat}, j < k → 2 ≤ partsTo (c.tests.getD j ⟨0, []⟩).outs s 4 → 0 ≤ (pickS B c s k).1 ∧ (pickS B c s k).2 ≤ costS B (c.tests.getD j ⟨0, []⟩).outs s ((c.tests.getD j ⟨0, []⟩).cost * weightS c s) 4
  | k + 1, j, hj, h2 => by
    rw [pickS]
    by_cases e : j = k
    · subst e
      rw [if_neg (by omega)]
      split
      · exact ⟨by show (0 : Int) ≤ (j : Int); omega, Int.le_refl _⟩
      · omega
    · have ih := pickS_least (B := B) (j := j) (k := k) (by omega) h2
      split
      · exact ih
      · split
        · exact ⟨by show (0 : Int) ≤ (k : Int); omega, by show costS B _ s _ 4 ≤ _; omega⟩
        · exact ih
theorem pickS_value {B : Nat → Int × Int} {s : Nat} : ∀ {k : Nat}, 0 ≤ (pickS B c s k).1 → (pickS B c s k).2 = costS B (testAt c (pickS B c s k).1).outs s ((testAt c (pickS B c s k).1).cost * weightS c s) 4
  | 0, h => by rw [pickS] at h; exact absurd h (by decide)
  | k + 1, h => by
    rw [pickS] at h ⊢
    split at h
    · rename_i e
      rw [if_pos e]
      exact pickS_value h
    · rename_i e
      rw [if_neg e]
      split at h
      · rename_i e2
        rw [if_pos e2]
        show _ = costS B (c.tests.getD ((k : Int)).toNat ⟨0, []⟩).outs s ((c.tests.getD ((k : Int)).toNat ⟨0, []⟩).cost * weightS c s) 4
        rw [Int.toNat_natCast]
      · rename_i e2
        rw [if_neg e2]
        exact pickS_value h
theorem pickS_none {B : Nat → Int × Int} {s : Nat} : ∀ {k : Nat}, (pickS B c s k).1 < 0 → (pickS B c s k).2 = 0 ∧ ∀ j, j < k → partsTo (c.tests.getD j ⟨0, []⟩).outs s 4 < 2
  | 0, _ => ⟨rfl, fun j hj => by omega⟩
  | k + 1, h => by
    have hall : ∀ j, j < k + 1 → partsTo (c.tests.getD j ⟨0, []⟩).outs s 4 < 2 := fun j hj => by
      rcases Nat.lt_or_ge (partsTo (c.tests.getD j ⟨0, []⟩).outs s 4) 2 with h1 | h1
      · exact h1
      · have := (pickS_least (B := B) hj h1).1
        omega
    rw [pickS, if_pos (hall k (by omega))] at h ⊢
    exact ⟨(pickS_none h).1, hall⟩
theorem best_leaf {s : Nat} (hs : s < 4096) (ha : alikeB c s (-1) = true) : bestS c s = (-1, 0) := by
  rw [bestS_eq c hs]
  have hall := alikeB_iff.1 ha
  have : ∀ k, k ≤ c.tests.length → pickS (bestS c) c s k = (-1, 0) := fun k => by
    induction k with
    | zero => exact fun _ => rfl
    | succ k ih =>
      intro hk
      have h1 := hall k c.tests[k] hk (List.getElem?_eq_getElem (by omega))
      have h2 : c.tests.getD k ⟨0, []⟩ = c.tests[k] := by rw [List.getD_eq_getElem?_getD, List.getElem?_eq_getElem (by omega)]; rfl
      rw [pickS, h2, if_pos (by omega)]
      exact ih (by omega)
  exact this _ (Nat.le_refl _)
theorem best_none {s : Nat} (hs : s < 4096) (h : (bestS c s).1 < 0) : alikeB c s (-1) = true := by
  rw [bestS_eq c hs] at h
  refine alikeB_iff.2 fun i t hi ht => .inr ?_
  have h1 := (pickS_none h).2 i hi
  rw [List.getD_eq_getElem?_getD, ht] at h1
  have h1 : partsTo t.outs s 4 < 2 := h1
  omega
theorem costS_below {B : Nat → Int × Int} {i s : Nat} {c0 : Int} (h : ∀ o, o < 4 → 0 < partS (testAt c (fk F i).test).outs s o → (B (partS (testAt c (fk F i).test).outs s o)).2 ≤ costF c F S ((fk F i).next.getD o 0).toNat) : ∀ k, k ≤ 4 → costS B (testAt c (fk F i).test).outs s c0 k ≤ c0 + belowF c F S i s k
  | 0, _ => by show c0 ≤ c0 + 0; omega
  | k + 1, hk => by
    have ih := costS_below (c0 := c0) h k (by omega)
    rw [costS, belowF]
    by_cases e : 0 < partS (testAt c (fk F i).test).outs s k
    · rw [if_pos e, if_pos e]
      have := h k (by omega) e
      omega
    · rw [if_neg e, if_neg e]; omega
theorem costS_below_eq {B : Nat → Int × Int} {i s : Nat} {c0 : Int} (h : ∀ o, o < 4 → 0 < partS (testAt c (fk F i).test).outs s o → (B (partS (testAt c (fk F i).test).outs s o)).2 = costF c F S ((fk F i).next.getD o 0).toNat) : ∀ k, k ≤ 4 → costS B (testAt c (fk F i).test).outs s c0 k = c0 + belowF c F S i s k
  | 0, _ => by show c0 = c0 + 0; omega
  | k + 1, hk => by
    have ih := costS_below_eq (c0 := c0) h k (by omega)
    rw [costS, belowF]
    by_cases e : 0 < partS (testAt c (fk F i).test).outs s k
    · rw [if_pos e, if_pos e, ih, h k (by omega) e]
      omega
    · rw [if_neg e, if_neg e, ih]; omega
/-- no fork costs less than the best choice for its set -/
theorem costF_least (hc : CaseOk c) (hT : TreeOk c F S) (hS : ∀ i, S i < 2 ^ c.weights.length) : ∀ (n : Nat) {i : Nat}, F.length - i ≤ n → i < F.length → (bestS c (S i)).2 ≤ costF c F S i
  | 0, i, hn, hi => by omega
  | n + 1, i, hn, hi => by
    have hs12 := pow12 hc.n2 (hS i)
    by_cases ht : (fk F i).test = -1
    · rw [costF_leaf hi ht, best_leaf hs12 (hT.leaf i hi ht).2]
      exact Int.le_refl _
    · obtain ⟨hf1, hf2, hf3, hf4⟩ := hT.node i hi ht
      rw [costF_fork hc hT hS hi ht, bestS_eq c hs12]
      obtain ⟨t, htv⟩ : ∃ t : Nat, (fk F i).test = (t : Int) := ⟨(fk F i).test.toNat, by omega⟩
      have hta : testAt c (fk F i).test = c.tests.getD t ⟨0, []⟩ := by unfold testAt; rw [htv, Int.toNat_natCast]
      have h1 := (pickS_least (B := bestS c) (s := S i) (k := c.tests.length) (j := t) (by omega) (by rw [← hta]; exact hf4)).2
      rw [← hta] at h1
      refine Int.le_trans h1 (costS_below (fun o ho hx => ?_) 4 (Nat.le_refl _))
      obtain ⟨⟨hy1, hy2⟩, hy3⟩ := hT.yes i hi ht o ho (by omega)
      rw [← hy3]
      exact costF_least hc hT hS n (by omega) (by omega)
/-- a tree that asks for the best test everywhere costs what the best choice says -/
theorem costF_best (hc : CaseOk c) (hT : TreeOk c F S) (hS : ∀ i, S i < 2 ^ c.weights.length) (hb : ∀ i, i < F.length → (fk F i).test = (bestS c (S i)).1) : ∀ (n : Nat) {i : Nat}, F.length - i ≤ n → i < F.length → (bestS c (S i)).2 = costF c F S i
  | 0, i, hn, hi => by omega
  | n + 1, i, hn, hi => by
    have hs12 := pow12 hc.n2 (hS i)
    by_cases ht : (fk F i).test = -1
    · rw [costF_leaf hi ht, best_leaf hs12 (hT.leaf i hi ht).2]
    · obtain ⟨hf1, hf2, hf3, hf4⟩ := hT.node i hi ht
      rw [costF_fork hc hT hS hi ht]
      have h1 : (bestS c (S i)).2 = costS (bestS c) (testAt c (fk F i).test).outs (S i) ((testAt c (fk F i).test).cost * weightS c (S i)) 4 := by
        have h2 := hb i hi
        rw [h2] at hf1 ⊢
        rw [bestS_eq c hs12] at hf1 ⊢
        exact pickS_value hf1
      rw [h1]
      refine costS_below_eq (fun o ho hx => ?_) 4 (Nat.le_refl _)
      obtain ⟨⟨hy1, hy2⟩, hy3⟩ := hT.yes i hi ht o ho (by omega)
      rw [← hy3]
      exact costF_best hc hT hS hb n (by omega) (by omega)
end
theorem bitsOf_full : ∀ n, n < 13 → bitsOf (2 ^ n - 1) = List.range n := by decide +kernel
theorem costTo_sum (c : MCase) (F : List MFork) : ∀ k, costTo c F k = sumB (fun x => payI c (c.weights.getD x 0) (walkT c F x)) (List.range k)
  | 0 => rfl
  | k + 1 => by
    rw [costTo, List.range_succ, sumB_app, costTo_sum c F k]
    show _ = _ + (_ + 0)
    rw [Int.add_zero]
theorem costTo_root {c : MCase} {F : List MFork} {S : NN} (hc : CaseOk c) (hT : TreeOk c F S) : costTo c F c.weights.length = costF c F S 0 := by
  have hn2 := hc.n2
  unfold costF
  rw [hT.root, costTo_sum]
  unfold fullS
  rw [bitsOf_full _ (by omega)]
  rfl
end Go.Proofs.YtonpemikodajdaaDoor
