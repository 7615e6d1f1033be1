/- Plain: the users' order, sorted by insertion. -/
import Derived.Test.YtegclodchhcbaaaSv
namespace Go.Proofs.Ytegclodchhcbaaa

/-- the cells of the order, the first i of them sorted -/
def laidF (s : List Int) (i t : Nat) : Int := if t < i then s.getD t 0 else t
/-- and i on its way down, at j -/
def layF (s : List Int) (i j t : Nat) : Int := if t < j then s.getD t 0 else if t = j then i else if t ≤ i then s.getD (t - 1) 0 else t
theorem layF_start {s : List Int} {i t : Nat} : layF s i i t = laidF s i t := by
  unfold layF laidF
  by_cases h : t < i
  · rw [if_pos h, if_pos h]
  · rw [if_neg h, if_neg h]
    by_cases h2 : t = i
    · rw [if_pos h2, h2]
    · rw [if_neg h2, if_neg (by omega)]
theorem layF_swap {s : List Int} {i j t : Nat} (hj : 0 < j) (hi : j ≤ i) : (if t = j - 1 then layF s i j j else if t = j then layF s i j (j - 1) else layF s i j t) = layF s i (j - 1) t := by
  unfold layF
  by_cases h1 : t = j - 1
  · simp [h1]
  · rw [if_neg h1]
    by_cases h2 : t = j
    · subst h2
      rw [if_pos rfl, if_pos (by omega), if_neg (by omega), if_neg (by omega), if_pos hi]
    · rw [if_neg h2]
      by_cases h3 : t < j
      · rw [if_pos h3, if_pos (by omega)]
      · rw [if_neg h3, if_neg h2, if_neg (show ¬ t < j - 1 by omega), if_neg h1]
def insAt (s : List Int) (x : Int) (j : Nat) : List Int := s.take j ++ x :: s.drop j
theorem insAt_len {s : List Int} {x : Int} {j : Nat} : (insAt s x j).length = s.length + 1 := by
  unfold insAt
  have := congrArg List.length (List.take_append_drop j s)
  rw [List.length_append] at this
  rw [List.length_append, List.length_cons]
  omega
theorem insAt_mem {s : List Int} {x y : Int} {j : Nat} : y ∈ insAt s x j ↔ y = x ∨ y ∈ s := by
  unfold insAt
  conv => rhs; rw [← List.take_append_drop j s]
  simp only [List.mem_append, List.mem_cons]
  constructor
  · rintro (h | rfl | h)
    · exact .inr (.inl h)
    · exact .inl rfl
    · exact .inr (.inr h)
  · rintro (rfl | h | h)
    · exact .inr (.inl rfl)
    · exact .inl h
    · exact .inr (.inr h)
theorem insAt_get {s : List Int} {i j t : Nat} (hs : s.length = i) (hj : j ≤ i) : layF s i j t = laidF (insAt s i j) (i + 1) t := by
  unfold layF laidF insAt
  by_cases h : t < i + 1
  · rw [if_pos h]
    by_cases h1 : t < j
    · rw [if_pos h1, List.getD_eq_getElem?_getD, List.getD_eq_getElem?_getD, List.getElem?_append_left (by rw [List.length_take]; omega), List.getElem?_take, if_pos h1]
    · have e : (s.take j ++ (i : Int) :: s.drop j).getD t 0 = ((i : Int) :: s.drop j).getD (t - j) 0 := by
        rw [List.getD_eq_getElem?_getD, List.getElem?_append_right (by rw [List.length_take]; omega), List.length_take, Nat.min_eq_left (by omega), List.getD_eq_getElem?_getD]
      rw [if_neg h1, e]
      by_cases h2 : t = j
      · rw [if_pos h2, h2, Nat.sub_self]
        rfl
      · rw [if_neg h2, if_pos (by omega), List.getD_eq_getElem?_getD, List.getD_eq_getElem?_getD, List.getElem?_cons, if_neg (by omega), List.getElem?_drop]
        congr 3
        omega
  · rw [if_neg h, if_neg (by omega), if_neg (by omega), if_neg (by omega)]
theorem getD_of_mem {l : List Int} {x : Int} (h : x ∈ l) : ∃ t, t < l.length ∧ l.getD t 0 = x := by
  obtain ⟨t, ht, he⟩ := List.mem_iff_getElem.1 h
  exact ⟨t, ht, by rw [List.getD_eq_getElem?_getD, List.getElem?_eq_getElem ht]; exact he⟩
theorem ins_sorted {g : MGrid} {s : List Int} {x : Int} {j : Nat} (hs : SortedK g s) (hlo : ∀ t, t < j → t < s.length → keyU g (s.getD t 0) < keyU g x) (hhi : ∀ t, j ≤ t → t < s.length → keyU g x < keyU g (s.getD t 0)) : SortedK g (insAt s x j) := by
  have hs' := hs
  unfold SortedK at hs'
  rw [← List.take_append_drop j s] at hs'
  obtain ⟨h1, h2, h3⟩ := List.pairwise_append.1 hs'
  have hl : ∀ y ∈ s.take j, keyU g y < keyU g x := fun y hy => by
    obtain ⟨t, ht, rfl⟩ := getD_of_mem hy
    rw [List.length_take] at ht
    rw [List.getD_eq_getElem?_getD, List.getElem?_take, if_pos (by omega), ← List.getD_eq_getElem?_getD]
    exact hlo t (by omega) (by omega)
  have hh : ∀ y ∈ s.drop j, keyU g x < keyU g y := fun y hy => by
    obtain ⟨t, ht, rfl⟩ := getD_of_mem hy
    rw [List.length_drop] at ht
    rw [List.getD_eq_getElem?_getD, List.getElem?_drop, ← List.getD_eq_getElem?_getD]
    exact hhi (j + t) (by omega) (by omega)
  refine List.pairwise_append.2 ⟨h1, List.pairwise_cons.2 ⟨hh, h2⟩, fun y hy z hz => ?_⟩
  rcases List.mem_cons.1 hz with rfl | hz
  · exact hl y hy
  · exact h3 y hy z hz
theorem sorted_at {g : MGrid} {s : List Int} (hs : SortedK g s) {t u : Nat} (htu : t < u) (hu : u < s.length) : keyU g (s.getD t 0) < keyU g (s.getD u 0) := by
  have := List.pairwise_iff_getElem.1 hs t u (by omega) hu htu
  rw [List.getD_eq_getElem?_getD, List.getD_eq_getElem?_getD, List.getElem?_eq_getElem (show t < s.length by omega), List.getElem?_eq_getElem hu]
  exact this
/-- the first i are sorted -/
structure SortI (g : MGrid) (s : List Int) (i : Nat) : Prop where
  len : s.length = i
  srt : SortedK g s
  mem : ∀ x, x ∈ s ↔ 0 ≤ x ∧ x < i
theorem SortI.one (g : MGrid) : SortI g [0] 1 := ⟨rfl, List.pairwise_singleton _ _, fun x => by rw [List.mem_singleton]; omega⟩
theorem SortI.nil (g : MGrid) : SortI g [] 0 := ⟨rfl, List.Pairwise.nil, fun x => ⟨fun h => (by cases h), fun h => (by omega)⟩⟩
/-- i has passed those from j on -/
def PassI (g : MGrid) (s : List Int) (i j : Nat) : Prop := ∀ t, j ≤ t → t < i → keyU g i < keyU g (s.getD t 0)
theorem key_less {g : MGrid} {s : List Int} {i j : Nat} (h : SortI g s i) (hi : i < 100) (hj : j < i) : ((userAt g (s.getD j 0)).level < (userAt g i).level ↔ keyU g i < keyU g (s.getD j 0)) ∧ (¬ (userAt g (s.getD j 0)).level < (userAt g i).level ↔ keyU g (s.getD j 0) < keyU g i) := by
  have hm : s.getD j 0 ∈ s := by
    have := h.len
    rw [List.getD_eq_getElem?_getD, List.getElem?_eq_getElem (by omega)]; exact List.getElem_mem _
  have := (h.mem _).1 hm
  unfold keyU
  omega
theorem PassI.step {g : MGrid} {s : List Int} {i j : Nat} (hp : PassI g s i j) (h : keyU g i < keyU g (s.getD (j - 1) 0)) (hj : 0 < j) : PassI g s i (j - 1) := fun t h1 h2 => by
  by_cases e : t = j - 1
  · rw [e]; exact h
  · exact hp t (by omega) h2
theorem SortI.put {g : MGrid} {s : List Int} {i j : Nat} (h : SortI g s i) (hj : j ≤ i) (hp : PassI g s i j) (hd : j = 0 ∨ keyU g (s.getD (j - 1) 0) < keyU g i) : SortI g (insAt s i j) (i + 1) := by
  refine ⟨by rw [insAt_len, h.len], ins_sorted h.srt (fun t h1 h2 => ?_) (fun t h1 h2 => hp t h1 (by rw [← h.len]; exact h2)), fun x => ?_⟩
  · rcases hd with rfl | hd
    · omega
    · by_cases e : t = j - 1
      · rw [e]; exact hd
      · have hl := h.len
        have := sorted_at h.srt (t := t) (u := j - 1) (by omega) (by omega)
        omega
  · rw [insAt_mem, h.mem]
    push_cast
    omega
end Go.Proofs.Ytegclodchhcbaaa
