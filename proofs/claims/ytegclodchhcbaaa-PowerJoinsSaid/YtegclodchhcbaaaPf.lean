/- Plain: one more fault, or one wanted user less, never carries more. -/
import Derived.Test.YtegclodchhcbaaaSv
import Derived.Test.YtegclodchhcbaaaPe
namespace Go.Proofs.Ytegclodchhcbaaa

theorem lostB_app (F : List MFault) (f : MFault) (k n : Int) : lostB (F ++ [f]) k n = (lostB F k n || (f.kind == k && f.number == n)) := by
  unfold lostB
  simp
theorem ind_mono {p q : Bool} {v : Int} (h : p = true → q = true) (hv : 0 ≤ v) : ind p v ≤ ind q v := by
  unfold ind
  rcases hp : p
  · rw [if_neg (by decide)]
    split <;> omega
  · rw [if_pos rfl, if_pos (h hp)]
    exact Int.le_refl _
theorem not_app {F : List MFault} {f : MFault} {k n : Int} (h : (!lostB (F ++ [f]) k n) = true) : (!lostB F k n) = true := by
  rw [lostB_app] at h
  rcases e : lostB F k n
  · rfl
  · rw [e] at h; simp at h
theorem lineOn_app {F : List MFault} {f : MFault} {i : Nat} {l : MLine} (h : lineOn (F ++ [f]) i l = true) : lineOn F i l = true := by
  unfold lineOn at h ⊢
  simp only [Bool.and_eq_true] at h ⊢
  exact ⟨not_app h.1, not_app h.2.1, not_app h.2.2⟩
theorem srcOn_app {F : List MFault} {f : MFault} {i : Nat} {s : MSrc} (h : srcOn (F ++ [f]) i s = true) : srcOn F i s = true := by
  unfold srcOn at h ⊢
  simp only [Bool.and_eq_true] at h ⊢
  exact ⟨not_app h.1, not_app h.2⟩
theorem getD_in {α : Type} {l : List α} {k : Nat} (hk : k < l.length) (d : α) : l.getD k d ∈ l := by
  rw [List.getD_eq_getElem?_getD, List.getElem?_eq_getElem hk]
  exact List.getElem_mem _
theorem cut_more {g : MGrid} {n : Nat} (hg : GridOk g n) (F : List MFault) (f : MFault) (want : List Int) (S : Nat → Bool) : cutG g (F ++ [f]) want S ≤ cutG g F want S := by
  unfold cutG
  have h1 : sumN (fun i => lineC (F ++ [f]) S i (g.lines.getD i dLine)) g.lines.length ≤ sumN (fun i => lineC F S i (g.lines.getD i dLine)) g.lines.length := sumN_le fun k hk => by
    have hl := (hg.line _ (getD_in hk dLine)).2.2.2.1
    unfold lineC
    refine Int.add_le_add (ind_mono (fun h => ?_) hl) (ind_mono (fun h => ?_) hl)
    · rw [Bool.and_eq_true] at h ⊢
      exact ⟨lineOn_app h.1, h.2⟩
    · rw [Bool.and_eq_true] at h ⊢
      exact ⟨lineOn_app h.1, h.2⟩
  have h2 : sumN (fun i => srcC (F ++ [f]) S i (g.srcs.getD i dSrc)) g.srcs.length ≤ sumN (fun i => srcC F S i (g.srcs.getD i dSrc)) g.srcs.length := sumN_le fun k hk => by
    have hl := (hg.src _ (getD_in hk dSrc)).2.1
    refine ind_mono (fun h => ?_) hl
    rw [Bool.and_eq_true] at h ⊢
    exact ⟨srcOn_app h.1, h.2⟩
  have h3 : sumN (fun i => userC (F ++ [f]) S (g.users.getD (want.getD i 0).toNat dUser)) want.length ≤ sumN (fun i => userC F S (g.users.getD (want.getD i 0).toNat dUser)) want.length := sumN_le fun k _ => by
    refine ind_mono (fun h => ?_) (userAt_nn hg _)
    rw [Bool.and_eq_true] at h ⊢
    exact ⟨not_app h.1, h.2⟩
  omega
theorem flow_more {g : MGrid} {n : Nat} (hg : GridOk g n) {F : List MFault} {f : MFault} {want : List Int} {sum sum' : Int} {R R' : Nat → Bool} (h : MostG g F want n sum R) (h' : MostG g (F ++ [f]) want n sum' R') : sum' ≤ sum := by
  have h1 := h'.le R
  have h2 := cut_more hg F f want R
  rw [h.is] at h2
  omega
theorem erase_sum (f : Int → Int) : ∀ {l : List Int} {k : Nat}, k < l.length → (l.map f).sum = f (l.getD k 0) + ((l.eraseIdx k).map f).sum
  | [], _, h => by simp at h
  | x :: r, 0, _ => by simp
  | x :: r, k + 1, h => by
    have ih := erase_sum f (l := r) (k := k) (by simpa using h)
    rw [List.eraseIdx_cons_succ, List.map_cons, List.sum_cons, List.map_cons, List.sum_cons, ih, show (x :: r).getD (k + 1) 0 = r.getD k 0 from rfl]
    omega
theorem flow_less {g : MGrid} {n : Nat} (hg : GridOk g n) {F : List MFault} {want : List Int} {k : Nat} (hk : k < want.length) {sum sum' : Int} {R R' : Nat → Bool} (h : MostG g F want n sum R) (h' : MostG g F (want.eraseIdx k) n sum' R') : sum' ≤ sum := by
  have h1 := h'.le R
  have h2 := h.is
  rw [cutG_split] at h1 h2
  rw [erase_sum (fun x => userC F R (userAt g x)) hk] at h2
  have h3 : 0 ≤ userC F R (userAt g (want.getD k 0)) := (ind_le (userAt_nn hg _)).1
  omega
theorem erase_get {l : List Int} {k i : Nat} : (l.eraseIdx k).getD i 0 = if i < k then l.getD i 0 else l.getD (i + 1) 0 := by
  simp only [List.getD_eq_getElem?_getD, List.getElem?_eraseIdx]
  split <;> rfl
theorem checkW_less {g : MGrid} {want : List Int} {k : Nat} (hk : k < want.length) (h : checkW g want = 0) : checkW g (want.eraseIdx k) = 0 := by
  have hall : ∀ j, j < want.length → wantB g want j = true := by
    unfold checkW at h
    split at h
    · rename_i h1
      exact fun j hj => rng_at h1 hj
    · exact absurd h (by decide)
  have hat : ∀ j, j < want.length → prevW want j < want.getD j 0 ∧ want.getD j 0 < g.users.length := fun j hj => by
    have := hall j hj
    unfold wantB at this
    simpa using this
  refine checkW_0 fun j hj => ?_
  rw [List.length_eraseIdx, if_pos hk] at hj
  unfold wantB
  simp only [Bool.and_eq_true, decide_eq_true_eq]
  rw [erase_get]
  by_cases hjk : j < k
  · rw [if_pos hjk]
    have h1 := hat j (by omega)
    refine ⟨?_, h1.2⟩
    have h2 := h1.1
    unfold prevW at h2 ⊢
    by_cases h0 : j = 0
    · rw [if_pos h0] at h2 ⊢; exact h2
    · rw [if_neg h0] at h2 ⊢
      rw [erase_get, if_pos (by omega)]
      exact h2
  · rw [if_neg hjk]
    have h1 := hat (j + 1) (by omega)
    have h3 := hat j (by omega)
    refine ⟨?_, h1.2⟩
    have h2 := h1.1
    have h4 := h3.1
    unfold prevW at h2 h4 ⊢
    rw [if_neg (by omega)] at h2
    simp only [Nat.add_sub_cancel] at h2
    by_cases h0 : j = 0
    · rw [if_pos h0] at h4 ⊢; omega
    · rw [if_neg h0] at h4 ⊢
      rw [erase_get]
      by_cases e : j - 1 < k
      · rw [if_pos e]; omega
      · rw [if_neg e, show j - 1 + 1 = j by omega]; exact h2
theorem checkA_less {g : MGrid} {F : List MFault} {want : List Int} {k : Nat} (hk : k < want.length) (h : checkA g F want = 0) : checkA g F (want.eraseIdx k) = 0 := by
  unfold checkA at h ⊢
  split at h
  · rename_i h1
    rw [if_pos h1]
    exact checkW_less hk h
  · rename_i h1
    exact absurd h h1
end Go.Proofs.Ytegclodchhcbaaa
