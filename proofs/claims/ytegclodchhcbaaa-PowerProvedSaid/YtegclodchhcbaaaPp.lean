/- Plain: what is carried is the limit of the cut, which holds no lost node; it is at most what is wanted, and what is supplied. -/
import Derived.Test.YtegclodchhcbaaaPf
import Derived.Test.YtegclodchhcbaaaFc
import Derived.Test.YtegclodchhcbaaaLs
namespace Go.Proofs.Ytegclodchhcbaaa

theorem ind_congr {p q : Bool} {v : Int} (h : p = q) : ind p v = ind q v := by rw [h]
theorem cut_lost {g : MGrid} {n : Nat} (hg : GridOk g n) {F : List MFault} {want : List Int} {S : Nat → Bool} {x : Nat} (hx : lostB F 3 x = true) : cutG g F want S = cutG g F want (fun y => S y && decide (y ≠ x)) := by
  have key : ∀ a : Int, 0 ≤ a → lostB F 3 a = false → (S a.toNat && decide (a.toNat ≠ x)) = S a.toNat := fun a ha h => by
    have : a.toNat ≠ x := fun e => by
      rw [show a = (x : Int) by omega] at h
      rw [hx] at h
      cases h
    rw [decide_eq_true this, Bool.and_true]
  unfold cutG
  congr 1
  · congr 1
    · refine sumN_congr fun i hi => ?_
      have hl := hg.line _ (getD_in hi dLine)
      unfold lineC
      rcases hon : lineOn F i (g.lines.getD i dLine)
      · simp [ind]
      · unfold lineOn at hon
        simp only [Bool.and_eq_true, Bool.not_eq_true'] at hon
        simp only [key _ hl.1.1 hon.2.1, key _ hl.2.1.1 hon.2.2]
    · refine sumN_congr fun i hi => ?_
      have hl := hg.src _ (getD_in hi dSrc)
      unfold srcC
      rcases hon : srcOn F i (g.srcs.getD i dSrc)
      · simp [ind]
      · unfold srcOn at hon
        simp only [Bool.and_eq_true, Bool.not_eq_true'] at hon
        simp only [key _ hl.1.1 hon.2]
  · refine sumN_congr fun i _ => ?_
    unfold userC
    rcases hon : lostB F 3 (g.users.getD (want.getD i 0).toNat dUser).node
    · have h0 : 0 ≤ (g.users.getD (want.getD i 0).toNat dUser).node := by
        rw [List.getD_eq_getElem?_getD]
        rcases h : g.users[(want.getD i 0).toNat]? with _ | u
        · exact Int.le_refl 0
        · exact (hg.user u (List.mem_of_getElem? h)).1.1
      simp only [key _ h0 hon]
    · simp [ind]
theorem MostG.not_lost {g : MGrid} {n : Nat} {F : List MFault} {want : List Int} {sum : Int} {R : Nat → Bool} (h : MostG g F want n sum R) (hg : GridOk g n) {x : Nat} (hx : x < n) (hr : R x = true) : lostB F 3 x = false := by
  rcases e : lostB F 3 x
  · rfl
  · have h1 := cut_lost hg (want := want) (S := R) e
    rw [h.is] at h1
    have := h.least _ h1.symm x hx hr
    simp at this
theorem cutL_mem {R : Nat → Bool} {n k : Nat} {x : Int} : x ∈ cutL R n k ↔ ∃ y : Nat, (y < k ∧ y < n ∧ R y = true) ∧ x = y := by
  unfold cutL
  rw [List.mem_map]
  constructor
  · rintro ⟨y, hy, rfl⟩
    have := List.mem_filter.1 hy
    simp only [List.mem_range, Bool.and_eq_true, decide_eq_true_eq] at this
    exact ⟨y, ⟨this.1, this.2.1, this.2.2⟩, rfl⟩
  · rintro ⟨y, ⟨h1, h2, h3⟩, rfl⟩
    refine ⟨y, List.mem_filter.2 ⟨List.mem_range.2 h1, ?_⟩, rfl⟩
    simp [h2, h3]
theorem cutL_has {R : Nat → Bool} {n k : Nat} (hn : n ≤ k) {y : Nat} (hy : y < n) : hasI (cutL R n k) y = R y := by
  unfold hasI
  rw [Bool.eq_iff_iff]
  rw [List.contains_iff_mem, cutL_mem]
  constructor
  · rintro ⟨z, ⟨_, _, h⟩, e⟩
    have : z = y := by omega
    rw [← this]; exact h
  · intro h
    exact ⟨y, ⟨by omega, hy, h⟩, rfl⟩
theorem cutL_asc (R : Nat → Bool) (n k : Nat) : (cutL R n k).Pairwise (· < ·) := by
  unfold cutL
  rw [List.pairwise_map]
  refine List.Pairwise.imp (R := fun a b : Nat => a < b) (fun h => by omega) ?_
  exact List.Pairwise.filter _ List.pairwise_lt_range
theorem nodesB_cut {g : MGrid} {n : Nat} (hg : GridOk g n) {F : List MFault} {R : Nat → Bool} (hl : ∀ x, x < n → R x = true → lostB F 3 x = false) (k : Nat) : nodesB g F (cutL R n k) = true := by
  refine rng_yes fun i hi => ?_
  obtain ⟨y, ⟨h1, h2, h3⟩, e⟩ := cutL_mem.1 (getD_in hi 0)
  unfold setAt
  rw [e, hl y h2 h3, hg.nodes, decide_eq_true (by omega), decide_eq_true (by omega)]
  simp only [Bool.true_and, Bool.not_false, Bool.and_true]
  by_cases h0 : i = 0
  · simp [h0]
  · have hp := List.pairwise_iff_getElem.1 (cutL_asc R n k) (i - 1) i (by omega) hi (by omega)
    rw [List.getD_eq_getElem?_getD, List.getElem?_eq_getElem hi] at e
    have e' : (cutL R n k)[i] = (y : Int) := e
    rw [e'] at hp
    have e2 : (cutL R n k).getD (i - 1) 0 = (cutL R n k)[i - 1] := by
      rw [List.getD_eq_getElem?_getD, List.getElem?_eq_getElem (show i - 1 < (cutL R n k).length by omega)]
      rfl
    rw [e2, decide_eq_true hp, Bool.or_true]
theorem nodesB_in {g : MGrid} {n : Nat} (hg : GridOk g n) {F : List MFault} {nodes : List Int} (h : nodesB g F nodes = true) : ∀ x ∈ nodes, 0 ≤ x ∧ x < n := fun x hx => by
  obtain ⟨t, ht, rfl⟩ := getD_of_mem hx
  have h1 := rng_at h ht
  unfold setAt at h1
  simp only [Bool.and_eq_true, decide_eq_true_eq] at h1
  rw [hg.nodes] at h1
  exact ⟨h1.1, h1.2.1⟩
theorem MostG.cut_sum {g : MGrid} {n : Nat} {F : List MFault} {want : List Int} {sum : Int} {R : Nat → Bool} (h : MostG g F want n sum R) (hg : GridOk g n) (hw : WantOk g want) : cutG g F want (fun x => hasI (cutL R n 22) x) = sum := by
  rw [← h.is]
  exact cutG_congr hg hw fun x hx => cutL_has (by have := hg.few; omega) hx
theorem MostG.le_want {g : MGrid} {n : Nat} {F : List MFault} {want : List Int} {sum : Int} {R : Nat → Bool} (h : MostG g F want n sum R) (hg : GridOk g n) : sum ≤ powS g want :=
  Int.le_trans (h.le _) (cut_top hg F want)
def supS (g : MGrid) (k : Nat) : Int := sumN (fun i => (g.srcs.getD i dSrc).power) k
theorem MostG.le_sup {g : MGrid} {n : Nat} {F : List MFault} {want : List Int} {sum : Int} {R : Nat → Bool} (h : MostG g F want n sum R) (hg : GridOk g n) : sum ≤ supS g g.srcs.length := by
  refine Int.le_trans (h.le fun _ => false) ?_
  unfold cutG supS
  rw [sumN_eq_zero (f := fun i => lineC F (fun _ => false) i (g.lines.getD i dLine)) fun i _ => by unfold lineC ind; simp, sumN_eq_zero (f := fun i => userC F (fun _ => false) (g.users.getD (want.getD i 0).toNat dUser)) fun i _ => by unfold userC ind; simp]
  rw [Int.zero_add, Int.add_zero]
  exact sumN_le fun k hk => (ind_le (hg.src _ (getD_in hk dSrc)).2.1).2
end Go.Proofs.Ytegclodchhcbaaa
