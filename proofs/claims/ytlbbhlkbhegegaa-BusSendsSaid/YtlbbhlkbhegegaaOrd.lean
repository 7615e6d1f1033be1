/- The order of the gates, as plain data. -/
import Derived.Test.YtlbbhlkbhegegaaNet
namespace Go.Proofs.Ytlbbhlkbhegegaa
open Go.RowKit

/-- a gate g on a path waits for none that is not in out -/
def stepB (out : List Int) (g : Int) (p : List Int) : Bool :=
  (List.range p.length).all fun k => decide (k = 0) || (p.getD k 0 != g) || hasI out (p.getD (k - 1) 0)
def flowsReady (n : MNet) (out : List Int) (g : Int) : Bool := n.flows.all fun f => stepB out g f.path
def readyB (n : MNet) (out : List Int) (g : Int) : Bool := !hasI out g && flowsReady n out g
def nextG (n : MNet) (out : List Int) : Option Nat := (List.range n.gates.length).find? fun g => readyB n out g
def orderFrom (n : MNet) : Nat → List Int → Option (List Int)
  | 0, out => some out
  | m + 1, out => match nextG n out with
    | none => none
    | some g => orderFrom n m (out ++ [(g : Int)])
def orderS (n : MNet) : Option (List Int) := orderFrom n n.gates.length []

theorem range_find_none {n : Nat} {p : Nat → Bool} (h : ∀ j, j < n → p j = false) : (List.range n).find? p = none := by
  rw [List.find?_eq_none]
  intro x hx
  rw [h x (List.mem_range.1 hx)]
  simp
theorem range_find_some {n k : Nat} {p : Nat → Bool} (hk : k < n) (h : ∀ j, j < k → p j = false) (hp : p k = true) : (List.range n).find? p = some k := by
  rw [List.find?_eq_some_iff_getElem]
  refine ⟨hp, k, by simpa using hk, by simp, fun j hj => ?_⟩
  simp [h j hj]

theorem idxI_cases (l : List Int) (x : Int) : (idxI l x = -1 ∧ ∀ j, j < l.length → l.getD j 0 ≠ x) ∨ ∃ m : Nat, idxI l x = (m : Int) ∧ m < l.length ∧ l.getD m 0 = x ∧ ∀ j, j < m → l.getD j 0 ≠ x := by
  by_cases h : ∀ j, j < l.length → l.getD j 0 ≠ x
  · exact .inl ⟨idxI_miss h, h⟩
  · right
    have h' : ∃ j, j < l.length ∧ l.getD j 0 = x := by
      by_cases hh : ∃ j, j < l.length ∧ l.getD j 0 = x
      · exact hh
      · exact absurd (fun j hj he => hh ⟨j, hj, he⟩) h
    obtain ⟨m, hm⟩ : ∃ m, (m < l.length ∧ l.getD m 0 = x) ∧ ∀ j, j < m → ¬ (j < l.length ∧ l.getD j 0 = x) := by
      obtain ⟨j, hj⟩ := h'
      clear h
      induction j using Nat.strongRecOn with
      | _ j ih =>
        by_cases hh : ∃ i, i < j ∧ (i < l.length ∧ l.getD i 0 = x)
        · obtain ⟨i, hij, hi⟩ := hh
          exact ih i hij hi
        · exact ⟨j, hj, fun i hi hc => hh ⟨i, hi, hc⟩⟩
    have hne : ∀ j, j < m → l.getD j 0 ≠ x := fun j hj he => hm.2 j hj ⟨by omega, he⟩
    exact ⟨m, idxI_hit hm.1.1 hne hm.1.2, hm.1.1, hm.1.2, hne⟩

theorem inB_iff {n lo hi : Int} : inB n lo hi = true ↔ lo ≤ n ∧ n ≤ hi := by simp [inB]
theorem hasI_iff {l : List Int} {x : Int} : hasI l x = true ↔ ∃ j, j < l.length ∧ l.getD j 0 = x := by
  constructor
  · intro h
    rcases idxI_cases l x with ⟨_, h2⟩ | ⟨m, _, h2, h3, _⟩
    · rw [hasI_miss h2] at h; cases h
    · exact ⟨m, h2, h3⟩
  · rintro ⟨j, hj, he⟩
    exact hasI_hit hj he
theorem hasI_snoc (l : List Int) (x y : Int) : hasI (l ++ [x]) y = (hasI l y || decide (y = x)) := by
  unfold hasI
  rw [Bool.eq_iff_iff]
  simp
theorem hop_range {G : Nat} {p : List Int} (h : pathB G p = true) {k : Nat} (hk : k < p.length) : ∃ v : Nat, p.getD k 0 = (v : Int) ∧ v < G := by
  unfold pathB at h
  rw [List.all_eq_true] at h
  have := h k (List.mem_range.2 hk)
  unfold hopB at this
  rw [Bool.and_eq_true, inB_iff] at this
  exact ⟨(p.getD k 0).toNat, by omega, by omega⟩
theorem hop_distinct {G : Nat} {p : List Int} (h : pathB G p = true) {j k : Nat} (hj : j < k) (hk : k < p.length) : p.getD j 0 ≠ p.getD k 0 := by
  unfold pathB at h
  rw [List.all_eq_true] at h
  have h1 := h k (List.mem_range.2 hk)
  unfold hopB at h1
  rw [Bool.and_eq_true] at h1
  intro he
  have h2 : hasI (p.take k) (p.getD k 0) = true := hasI_hit (k := j) (by rw [List.length_take]; omega) (by rw [← he]; simp [List.getD_eq_getElem?_getD, hj])
  rw [h2] at h1
  exact absurd h1.2 (by simp)
theorem stepB_skip {out : List Int} {g : Int} {p : List Int} (h : ∀ k, 0 < k → k < p.length → p.getD k 0 ≠ g) : stepB out g p = true := by
  refine range_yes fun k hk => ?_
  by_cases h0 : k = 0
  · simp [h0]
  · have := h k (by omega) hk
    simp only [bne_iff_ne.2 this, Bool.or_true, Bool.true_or]
theorem stepB_at {G : Nat} {out : List Int} {g : Int} {p : List Int} (hp : pathB G p = true) {m : Nat} (hm : m + 1 < p.length) (he : p.getD (m + 1) 0 = g) : stepB out g p = hasI out (p.getD m 0) := by
  rcases ho : hasI out (p.getD m 0)
  · refine range_no hm ?_
    show (decide (m + 1 = 0) || (p.getD (m + 1) 0 != g) || hasI out (p.getD m 0)) = false
    rw [he, ho]
    simp
  · refine range_yes fun k hk => ?_
    by_cases hkm : k = m + 1
    · subst hkm
      show (decide (m + 1 = 0) || (p.getD (m + 1) 0 != g) || hasI out (p.getD m 0)) = true
      rw [ho]
      simp
    · have : p.getD k 0 ≠ g := by
        rw [← he]
        rcases Nat.lt_or_ge k (m + 1) with h1 | h1
        · exact hop_distinct hp h1 hm
        · exact fun e => hop_distinct hp (show m + 1 < k by omega) hk e.symm
      simp only [bne_iff_ne.2 this, Bool.or_true, Bool.true_or]
theorem netB_flow {n : MNet} (h : netB n = true) {k : Nat} {f : MFlow} (hf : n.flows[k]? = some f) : flowB f.burst f.rate = true ∧ inB (f.path.length : Int) 1 8 = true ∧ pathB n.gates.length f.path = true := by
  unfold netB at h
  simp only [Bool.and_eq_true, List.all_eq_true] at h
  have := h.2 f (List.mem_of_getElem? hf)
  unfold flowOkB at this
  simp only [Bool.and_eq_true] at this
  exact ⟨this.1.1, this.1.2, this.2⟩
theorem netB_gate {n : MNet} (h : netB n = true) {k : Nat} {g : MGate} (hg : n.gates[k]? = some g) : (1 ≤ g.rate ∧ g.rate ≤ 10000) ∧ 1 ≤ g.delay ∧ g.delay ≤ 1000 := by
  unfold netB at h
  simp only [Bool.and_eq_true, List.all_eq_true] at h
  have := h.1.2 g (List.mem_of_getElem? hg)
  unfold gateB at this
  rw [Bool.and_eq_true, inB_iff, inB_iff] at this
  exact this
theorem netB_len {n : MNet} (h : netB n = true) : n.gates.length ≤ 30 ∧ n.flows.length ≤ 40 := by
  unfold netB at h
  simp only [Bool.and_eq_true, decide_eq_true_eq] at h
  exact ⟨h.1.1.1, h.1.1.2⟩
theorem orderFrom_none {n : MNet} {m : Nat} {out : List Int} (h : nextG n out = none) : orderFrom n (m + 1) out = none := by
  unfold orderFrom; rw [h]
theorem orderFrom_some {n : MNet} {m : Nat} {out : List Int} {g : Nat} (h : nextG n out = some g) : orderFrom n (m + 1) out = orderFrom n m (out ++ [(g : Int)]) := by
  rw [orderFrom, h]
end Go.Proofs.Ytlbbhlkbhegegaa
