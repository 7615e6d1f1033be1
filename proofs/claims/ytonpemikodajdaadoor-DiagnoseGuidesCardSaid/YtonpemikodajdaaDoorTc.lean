/- Plain: the walk of a suspect down a right tree; the cost of a tree. -/
import Derived.Test.YtonpemikodajdaaDoorRk
namespace Go.Proofs.YtonpemikodajdaaDoor
open Go.RowKit

theorem tree_ok {c : MCase} {F : List MFork} (hc : CaseOk c) (h : rightB c F = true) : ∃ S, TreeOk c F S ∧ ∀ i, S i < 2 ^ c.weights.length := by
  unfold rightB at h
  rw [Bool.and_eq_true, decide_eq_true_eq, Option.isSome_iff_exists] at h
  obtain ⟨hl, S, hS⟩ := h
  exact ⟨S, tree_okS hc.n1 hl hS, fun i => pTo_lt hc.n2 hS i⟩
def walkN (c : MCase) (F : List MFork) (x : Nat) : Nat → Nat → List Int × Nat
  | 0, i => ([], i)
  | n + 1, i => if (fk F i).test < 0 then ([], i) else ((fk F i).test :: (walkN c F x n (nextI c F x i)).1, (walkN c F x n (nextI c F x i)).2)
theorem walkN_of {c : MCase} {F : List MFork} {x i j : Nat} {L : List Int} (h : WalkR c F x i L j) : ∀ n, L.length ≤ n → (L.length < n ∨ (fk F j).test < 0) → walkN c F x n i = (L, j) := by
  induction h with
  | leaf i h =>
    intro n hn _
    cases n with
    | zero => rfl
    | succ n => rw [walkN, if_pos h]
  | step i L j h0 _ ih =>
    intro n hn hj
    cases n with
    | zero => simp at hn
    | succ n =>
      rw [List.length_cons] at hn hj
      rw [walkN, if_neg (by omega), ih n (by omega) (by omega)]
def walkT (c : MCase) (F : List MFork) (x : Nat) : List Int := (walkN c F x F.length 0).1
def leafT (c : MCase) (F : List MFork) (x : Nat) : Nat := (walkN c F x F.length 0).2
/-- what is known of the walk of a suspect -/
structure WalkOk (c : MCase) (F : List MFork) (S : NN) (x : Nat) : Prop where
  w : WalkR c F x 0 (walkT c F x) (leafT c F x)
  l : leafT c F x < F.length
  b : (S (leafT c F x)).testBit x = true
  e : (fk F (leafT c F x)).test = -1
  n : (walkT c F x).length ≤ 5000
  t : ∀ t ∈ walkT c F x, ∃ k : Nat, t = (k : Int) ∧ k < c.tests.length
theorem full_bit {c : MCase} {x : Nat} (hx : x < c.weights.length) : (fullS c).testBit x = true := by
  unfold fullS
  rw [Nat.testBit_two_pow_sub_one, decide_eq_true hx]
theorem walk_all {c : MCase} {F : List MFork} {S : NN} (hc : CaseOk c) (hT : TreeOk c F S) (hS : ∀ i, S i < 2 ^ c.weights.length) {x : Nat} (hx : x < c.weights.length) : WalkOk c F S x := by
  have hn := hT.n1
  have hb : (S 0).testBit x = true := by rw [hT.root]; exact full_bit hx
  obtain ⟨L, j, h1, h2, h3, h4, h5, h6⟩ := walk_ok hc hT hS F.length (i := 0) (by omega) (by omega) hb
  have e : walkN c F x F.length 0 = (L, j) := walkN_of h1 _ (by omega) (.inl (by omega))
  have e1 : walkT c F x = L := by unfold walkT; rw [e]
  have e2 : leafT c F x = j := by unfold leafT; rw [e]
  have h7 := hT.n2
  exact ⟨by rw [e1, e2]; exact h1, by rw [e2]; exact h2, by rw [e2]; exact h3, by rw [e2]; exact h4, by rw [e1]; omega, by rw [e1]; exact h6⟩
/-- what tests cost a suspect of a weight -/
def payI (c : MCase) (n : Int) : List Int → Int
  | [] => 0
  | t :: L => n * (testAt c t).cost + payI c n L
theorem payI_app (c : MCase) (n : Int) : ∀ (L M : List Int), payI c n (L ++ M) = payI c n L + payI c n M
  | [], M => by show _ = 0 + _; rw [Int.zero_add]; rfl
  | t :: L, M => by
    show n * (testAt c t).cost + payI c n (L ++ M) = n * (testAt c t).cost + payI c n L + payI c n M
    rw [payI_app c n L M, Int.add_assoc]
theorem payI_succ {c : MCase} {n : Int} {L : List Int} {k : Nat} (hk : k < L.length) : payI c n (L.take (k + 1)) = payI c n (L.take k) + n * (testAt c (L.getD k 0)).cost := by
  rw [List.take_succ_eq_append_getElem hk, payI_app, List.getD_eq_getElem?_getD, List.getElem?_eq_getElem hk]
  show _ + (n * _ + 0) = _
  rw [Int.add_zero]
  rfl
theorem mul_small {a b : Int} (ha : 0 ≤ a ∧ a ≤ 1000) (hb : 0 ≤ b ∧ b ≤ 1000) : 0 ≤ a * b ∧ a * b ≤ 1000000 := by
  refine ⟨Int.mul_nonneg ha.1 hb.1, ?_⟩
  have := Int.mul_le_mul ha.2 hb.2 hb.1 (by omega)
  omega
theorem testAt_bd {c : MCase} (hc : CaseOk c) {k : Nat} (hk : k < c.tests.length) : 0 ≤ (testAt c (k : Int)).cost ∧ (testAt c (k : Int)).cost ≤ 1000 := by
  rw [testAt_of (List.getElem?_eq_getElem hk)]
  exact (hc.p k _ (List.getElem?_eq_getElem hk)).1
theorem payI_bd {c : MCase} (hc : CaseOk c) {n : Int} (hn : 0 ≤ n ∧ n ≤ 1000) : ∀ L : List Int, (∀ t ∈ L, ∃ k : Nat, t = (k : Int) ∧ k < c.tests.length) → 0 ≤ payI c n L ∧ payI c n L ≤ 1000000 * (L.length : Int)
  | [], _ => by simp [payI]
  | t :: L, h => by
    have ih := payI_bd hc hn L fun u hu => h u (List.mem_cons_of_mem _ hu)
    obtain ⟨k, rfl, hk⟩ := h t (List.mem_cons_self ..)
    have := mul_small hn (testAt_bd hc hk)
    rw [payI, List.length_cons]
    omega
theorem payI_take {c : MCase} (hc : CaseOk c) {n : Int} (hn : 0 ≤ n ∧ n ≤ 1000) {L : List Int} (h : ∀ t ∈ L, ∃ k : Nat, t = (k : Int) ∧ k < c.tests.length) (hl : L.length ≤ 5000) (k : Nat) : 0 ≤ payI c n (L.take k) ∧ payI c n (L.take k) ≤ 5000000000 := by
  have h1 := payI_bd hc hn (L.take k) fun t ht => h t (List.mem_of_mem_take ht)
  have h2 : (L.take k).length ≤ L.length := by rw [List.length_take]; omega
  omega
/-- what the first k suspects cost -/
def costTo (c : MCase) (F : List MFork) : Nat → Int
  | 0 => 0
  | k + 1 => costTo c F k + payI c (c.weights.getD k 0) (walkT c F k)
theorem costTo_bd {c : MCase} {F : List MFork} {S : NN} (hc : CaseOk c) (hT : TreeOk c F S) (hS : ∀ i, S i < 2 ^ c.weights.length) : ∀ k, k ≤ c.weights.length → 0 ≤ costTo c F k ∧ costTo c F k ≤ 5000000000 * (k : Int)
  | 0, _ => by simp [costTo]
  | k + 1, hk => by
    have ih := costTo_bd hc hT hS k (by omega)
    have hw := walk_all hc hT hS (x := k) (by omega)
    have h1 := payI_take hc (hc.w k (by omega)) hw.t hw.n (walkT c F k).length
    rw [List.take_length] at h1
    rw [costTo]
    omega
end Go.Proofs.YtonpemikodajdaaDoor
