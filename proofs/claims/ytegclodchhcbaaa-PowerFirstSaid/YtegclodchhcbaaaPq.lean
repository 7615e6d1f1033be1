/- Plain: who is served comes first. -/
import Derived.Test.YtegclodchhcbaaaSq
import Derived.Test.YtegclodchhcbaaaPe
namespace Go.Proofs.Ytegclodchhcbaaa

theorem sum_sub_nodup {f : Int → Int} (hf : ∀ x, 0 ≤ f x) : ∀ {l m : List Int}, l.Nodup → (∀ x ∈ l, x ∈ m) → (l.map f).sum ≤ (m.map f).sum
  | [], m, _, _ => by
    have := sum_le (f := fun _ => 0) (h := f) (l := m) fun x _ => hf x
    have h0 : ∀ k : List Int, (k.map fun _ => (0 : Int)).sum = 0 := fun k => by induction k with
      | nil => rfl
      | cons y r ih => simp [ih]
    rw [h0] at this
    simpa using this
  | x :: r, m, hd, hs => by
    obtain ⟨h1, h2⟩ := List.nodup_cons.1 hd
    have hm := hs x (List.mem_cons_self ..)
    have hp := List.perm_cons_erase hm
    rw [sum_perm (f := f) hp, List.map_cons, List.sum_cons, List.map_cons, List.sum_cons]
    have := sum_sub_nodup hf (l := r) (m := m.erase x) h2 fun y hy => by
      have hy2 := hs y (List.mem_cons_of_mem _ hy)
      have hne : y ≠ x := fun e => h1 (e ▸ hy)
      exact (List.mem_erase_of_ne hne).2 hy2
    omega
theorem carG_sub {g : MGrid} {n : Nat} (hg : GridOk g n) {F : List MFault} {l m : List Int} (hd : l.Nodup) (hs : ∀ x ∈ l, x ∈ m) (h : carG g F m) : carG g F l := fun S =>
  Int.le_trans (sum_sub_nodup (due_nn hg F S) hd hs) (h S)
section
variable {g : MGrid} {F : List MFault} {O : List Int}
theorem haveG_mono {k : Nat} {x : Int} (h : x ∈ haveG g F O k) : x ∈ haveG g F O (k + 1) := by
  rw [haveG]
  split
  · exact List.mem_append_left _ h
  · exact h
theorem haveG_up {k : Nat} {x : Int} (h : x ∈ haveG g F O k) : ∀ m, x ∈ haveG g F O (k + m)
  | 0 => h
  | m + 1 => haveG_mono (haveG_up h m)
theorem haveG_down {k : Nat} {x : Int} (h : x ∈ haveG g F O (k + 1)) (hx : x ≠ O.getD k 0) : x ∈ haveG g F O k := by
  rw [haveG] at h
  split at h
  · rcases List.mem_append.1 h with h | h
    · exact h
    · exact absurd (List.mem_singleton.1 h) hx
  · exact h
theorem haveG_back {k : Nat} {x : Int} : ∀ m, x ∈ haveG g F O (k + m) → (∀ t, k ≤ t → t < k + m → x ≠ O.getD t 0) → x ∈ haveG g F O k
  | 0, h, _ => h
  | m + 1, h, hx => haveG_back m (haveG_down h (hx (k + m) (by omega) (by omega))) fun t h1 h2 => hx t h1 (by omega)
theorem nodup_at (hd : O.Nodup) {i j : Nat} (hi : i < O.length) (hj : j < O.length) (h : O.getD i 0 = O.getD j 0) : i = j := by
  rw [List.getD_eq_getElem?_getD, List.getD_eq_getElem?_getD, List.getElem?_eq_getElem hi, List.getElem?_eq_getElem hj] at h
  exact (List.getElem_inj hd).1 h
theorem first_ok {n : Nat} (hg : GridOk g n) (hd : O.Nodup) {want : List Int} (hc : carG g F want) {i : Nat} (hi : i < O.length) (hb : ∀ j, j < i → (O.getD j 0 ∈ want ↔ O.getD j 0 ∈ haveG g F O O.length)) (hw : O.getD i 0 ∈ want) : O.getD i 0 ∈ haveG g F O O.length := by
  have hsub := haveG_sub (g := g) (F := F) (O := O) (k := i) (by omega)
  have hel : ∀ x ∈ haveG g F O i, ∃ j, j < i ∧ O.getD j 0 = x := fun x hx => by
    obtain ⟨t, ht, rfl⟩ := getD_of_mem (hsub.subset hx)
    rw [List.length_take] at ht
    exact ⟨t, by omega, by rw [List.getD_eq_getElem?_getD, List.getD_eq_getElem?_getD, List.getElem?_take, if_pos (by omega)]⟩
  have hlen : O.length = i + (O.length - i) := by omega
  have hall : ∀ x ∈ haveG g F O i ++ [O.getD i 0], x ∈ want := fun x hx => by
    rcases List.mem_append.1 hx with h | h
    · obtain ⟨j, hj, rfl⟩ := hel x h
      refine (hb j hj).2 ?_
      rw [hlen]
      exact haveG_up h _
    · rw [List.mem_singleton.1 h]; exact hw
  have hnd : (haveG g F O i ++ [O.getD i 0]).Nodup := by
    rw [List.nodup_append]
    refine ⟨(hd.sublist (List.take_sublist i O)).sublist hsub, by simp, fun a ha b hb2 e => ?_⟩
    rw [List.mem_singleton] at hb2
    obtain ⟨j, hj, e2⟩ := hel a ha
    have := nodup_at hd (show j < O.length by omega) hi (by rw [e2, e, hb2])
    omega
  have h1 : O.getD i 0 ∈ haveG g F O (i + 1) := by
    rw [haveG, if_pos (carB_iff.2 (carG_sub hg hnd hall hc))]
    exact List.mem_append_right _ (List.mem_singleton.2 rfl)
  rw [show O.length = (i + 1) + (O.length - (i + 1)) by omega]
  exact haveG_up h1 _
end
/-- the served users of the first k, in ascending order -/
noncomputable def servL (g : MGrid) (F : List MFault) : Nat → List Int
  | 0 => []
  | k + 1 => if hasI (servedG g F) k = true then servL g F k ++ [(k : Int)] else servL g F k
theorem servL_mem {g : MGrid} {F : List MFault} {x : Int} : ∀ {k : Nat}, x ∈ servL g F k ↔ (0 ≤ x ∧ x < k) ∧ x ∈ servedG g F
  | 0 => by simp [servL]; omega
  | k + 1 => by
    have ih := servL_mem (g := g) (F := F) (x := x) (k := k)
    have hh : hasI (servedG g F) k = true ↔ (k : Int) ∈ servedG g F := by unfold hasI; exact List.contains_iff_mem
    rw [servL]
    split
    · rename_i h
      rw [List.mem_append, ih, List.mem_singleton]
      have hk := hh.1 h
      constructor
      · rintro (h1 | rfl)
        · exact ⟨by omega, h1.2⟩
        · exact ⟨by omega, hk⟩
      · intro h1
        by_cases e : x = k
        · exact .inr e
        · exact .inl ⟨by omega, h1.2⟩
    · rename_i h
      rw [ih]
      constructor
      · intro h1
        exact ⟨by omega, h1.2⟩
      · intro h1
        by_cases e : x = k
        · subst e
          exact absurd (hh.2 h1.2) h
        · exact ⟨by omega, h1.2⟩
theorem servL_asc {g : MGrid} {F : List MFault} : ∀ {k : Nat}, (servL g F k).Pairwise (· < ·)
  | 0 => List.Pairwise.nil
  | k + 1 => by
    rw [servL]
    split
    · refine List.pairwise_append.2 ⟨servL_asc, List.pairwise_singleton _ _, fun a ha b hb => ?_⟩
      rw [List.mem_singleton] at hb
      have := servL_mem.1 ha
      omega
    · exact servL_asc
theorem servL_len {g : MGrid} {F : List MFault} : ∀ {k : Nat}, (servL g F k).length ≤ k
  | 0 => Nat.le_refl _
  | k + 1 => by
    have := servL_len (g := g) (F := F) (k := k)
    rw [servL]
    split
    · rw [List.length_append]; simp; omega
    · omega
theorem checkW_asc {g : MGrid} {l : List Int} (ha : l.Pairwise (· < ·)) (hr : ∀ x ∈ l, 0 ≤ x ∧ x < g.users.length) : checkW g l = 0 := by
  refine checkW_0 fun k hk => ?_
  unfold wantB
  have hm : l.getD k 0 ∈ l := by rw [List.getD_eq_getElem?_getD, List.getElem?_eq_getElem hk]; exact List.getElem_mem _
  have h1 := hr _ hm
  simp only [Bool.and_eq_true, decide_eq_true_eq]
  refine ⟨?_, h1.2⟩
  unfold prevW
  split
  · omega
  · have := List.pairwise_iff_getElem.1 ha (k - 1) k (by omega) hk (by omega)
    rw [List.getD_eq_getElem?_getD, List.getD_eq_getElem?_getD, List.getElem?_eq_getElem hk, List.getElem?_eq_getElem (show k - 1 < l.length by omega)]
    exact this
theorem servL_car {g : MGrid} {n : Nat} (hg : GridOk g n) (F : List MFault) (k : Nat) : carB g F (servL g F k) = true := by
  refine carB_iff.2 (carG_sub hg ?_ (fun x hx => (servL_mem.1 hx).2) (haveG_car (O := rankO g) (k := (rankO g).length) (carG_nil hg F)))
  exact List.Pairwise.imp (fun {a b} hab e => by subst e; omega) servL_asc
end Go.Proofs.Ytegclodchhcbaaa
