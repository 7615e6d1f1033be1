/- Plain: what a tick makes of one monitor's counter, calm and code. -/
import Derived.Test.YtonpemikodajdaaDoorMb
namespace Go.Proofs.YtonpemikodajdaaDoor
open Go.RowKit

/-- the codes of one monitor: one or none -/
def kOf (ks : List MCode) (w : Int) : List MCode := ks.filter fun c => decide (c.mon = w)
theorem kOf_mem {ks : List MCode} {w : Int} {c : MCode} : c ∈ kOf ks w ↔ c ∈ ks ∧ c.mon = w := by simp [kOf]
theorem kOf_nil {ks : List MCode} {w : Int} : hasS ks w = false ↔ kOf ks w = [] := by
  unfold hasS kOf
  rw [List.any_eq_false, List.filter_eq_nil_iff]
theorem kOf_parts {ks : List MCode} {i : Nat} (hi : i < ks.length) (w : Int) : kOf ks w = kOf (ks.take i) w ++ (kOf [ks.getD i dCode] w ++ kOf (ks.drop (i + 1)) w) := by
  have e : ks = ks.take i ++ ([ks.getD i dCode] ++ ks.drop (i + 1)) := by
    rw [List.getD_eq_getElem?_getD, List.getElem?_eq_getElem hi]
    show ks = ks.take i ++ (ks[i] :: ks.drop (i + 1))
    rw [← List.drop_eq_getElem_cons hi, List.take_append_drop]
  unfold kOf
  conv => lhs; rw [e]
  rw [List.filter_append, List.filter_append]
theorem kOf_one {ks : List MCode} {t : Int} (ha : AscC ks) (h : hasS ks t = true) : kOf ks t = [ks.getD (findS ks t) dCode] ∧ kOf (ks.take (findS ks t)) t = [] ∧ kOf (ks.drop (findS ks t + 1)) t = [] := by
  obtain ⟨h1, h2, h3, h4⟩ := find_S ha t
  obtain ⟨h5, h6⟩ := has_at ha h
  have e1 : kOf (ks.take (findS ks t)) t = [] := by
    unfold kOf
    rw [List.filter_eq_nil_iff]
    intro c hc
    obtain ⟨k, hk, rfl⟩ := List.mem_iff_getElem.1 hc
    rw [List.length_take] at hk
    have := h2 k (by omega)
    rw [List.getD_eq_getElem?_getD, List.getElem?_eq_getElem (by omega)] at this
    rw [List.getElem_take]
    have this : ks[k].mon < t := this
    simp; omega
  have e2 : kOf (ks.drop (findS ks t + 1)) t = [] := by
    unfold kOf
    rw [List.filter_eq_nil_iff]
    intro c hc
    obtain ⟨k, hk, rfl⟩ := List.mem_iff_getElem.1 hc
    rw [List.length_drop] at hk
    have := ha.1 (findS ks t) (findS ks t + 1 + k) (by omega) (by omega)
    rw [h6, List.getD_eq_getElem?_getD, List.getElem?_eq_getElem (by omega)] at this
    rw [List.getElem_drop]
    have this : t < (ks[findS ks t + 1 + k]).mon := this
    simp; omega
  refine ⟨?_, e1, e2⟩
  rw [kOf_parts h5, e1, e2, List.append_nil, List.nil_append]
  unfold kOf
  rw [List.filter_cons_of_pos (by simpa using h6)]
  rfl
theorem kOf_set {ks : List MCode} {i : Nat} (hi : i < ks.length) (c : MCode) (w : Int) : kOf (ks.set i c) w = kOf (ks.take i) w ++ (kOf [c] w ++ kOf (ks.drop (i + 1)) w) := by
  rw [List.set_eq_take_append_cons_drop, if_pos hi]
  unfold kOf
  rw [List.filter_append, ← List.singleton_append, List.filter_append]
theorem kOf_ins (ks : List MCode) (i : Nat) (c : MCode) (w : Int) : kOf (ks.take i ++ c :: ks.drop i) w = kOf (ks.take i) w ++ (kOf [c] w ++ kOf (ks.drop i) w) := by
  unfold kOf
  rw [List.filter_append, ← List.singleton_append, List.filter_append]
theorem kOf_erase (ks : List MCode) (i : Nat) (w : Int) : kOf (ks.eraseIdx i) w = kOf (ks.take i) w ++ kOf (ks.drop (i + 1)) w := by
  rw [List.eraseIdx_eq_take_drop_succ]
  unfold kOf
  rw [List.filter_append]
theorem kOf_cut (ks : List MCode) (i : Nat) (w : Int) : kOf ks w = kOf (ks.take i) w ++ kOf (ks.drop i) w := by
  unfold kOf
  rw [← List.filter_append, List.take_append_drop]
theorem kOf_ne {c : MCode} {w : Int} (h : c.mon ≠ w) : kOf [c] w = [] := by simp [kOf, h]
theorem kOf_eq {c : MCode} {w : Int} (h : c.mon = w) : kOf [c] w = [c] := by simp [kOf, h]
theorem kOf_set_ne {ks : List MCode} {i : Nat} (hi : i < ks.length) {c : MCode} {w : Int} (hc : c.mon = (ks.getD i dCode).mon) (hw : c.mon ≠ w) : kOf (ks.set i c) w = kOf ks w := by
  rw [kOf_set hi, kOf_parts hi, kOf_ne hw, kOf_ne (hc ▸ hw)]
theorem kOf_coded {l : List MMon} {s : WSt} (h : SOk l s) (hm : monsB l = true) {i : Nat} {w : Int} (hw : (i : Int) ≠ w) (tick : Int) (row : List Int) : kOf (codeOf l tick row i s).ks w = kOf s.ks w := by
  have ha := h.ascC (monsB_len hm)
  unfold codeOf
  split
  · split
    · rename_i hh
      have hat := has_at ha hh
      split
      · rfl
      · exact kOf_set_ne hat.1 rfl (by show (s.ks.getD _ dCode).mon ≠ w; rw [hat.2]; exact hw)
    · show kOf (s.ks.take _ ++ _ :: s.ks.drop _) w = _
      rw [kOf_ins, kOf_ne (by exact hw), List.nil_append, ← kOf_cut]
  · split
    · rename_i hh
      have hat := has_at ha hh.2
      exact kOf_set_ne hat.1 rfl (by show (s.ks.getD _ dCode).mon ≠ w; rw [hat.2]; exact hw)
    · rfl
theorem kOf_calmed {l : List MMon} {s : WSt} (h : SOk l s) (hm : monsB l = true) {i : Nat} {w : Int} (hw : (i : Int) ≠ w) : kOf (calmOf l i s).ks w = kOf s.ks w := by
  have ha := h.ascC (monsB_len hm)
  unfold calmOf
  split
  · rename_i hh
    have hat := has_at ha hh.1
    split
    · show kOf (s.ks.eraseIdx _) w = _
      rw [kOf_erase, kOf_parts hat.1, kOf_ne (by rw [hat.2]; exact hw), List.nil_append]
    · rfl
  · rfl
theorem ns_coded (l : List MMon) (tick : Int) (row : List Int) (i : Nat) (s : WSt) : (codeOf l tick row i s).ns = s.ns := by
  unfold codeOf
  split
  · split
    · split <;> rfl
    · rfl
  · split <;> rfl
theorem cs_coded (l : List MMon) (tick : Int) (row : List Int) (i : Nat) (s : WSt) : (codeOf l tick row i s).cs = s.cs := by
  unfold codeOf
  split
  · split
    · split <;> rfl
    · rfl
  · split <;> rfl
theorem ns_calmed (l : List MMon) (i : Nat) (s : WSt) : (calmOf l i s).ns = s.ns := by
  unfold calmOf
  split
  · split <;> rfl
  · rfl
theorem cs_calmed {l : List MMon} {i j : Nat} {s : WSt} (hi : i < s.cs.length) (h : j ≠ i) : (calmOf l i s).cs.getD j 0 = s.cs.getD j 0 := by
  unfold calmOf
  split
  · split
    · show (s.cs.set i _).getD j 0 = _
      rw [getD_set _ _ _ _ hi, if_neg h]
    · show (s.cs.set i _).getD j 0 = _
      rw [getD_set _ _ _ _ hi, if_neg h]
  · show (s.cs.set i _).getD j 0 = _
    rw [getD_set _ _ _ _ hi, if_neg h]
/-- the code of one monitor behind the count -/
def codeM (m : MMon) (tick : Int) (row : List Int) (i : Int) (n : Int) (K : List MCode) : List MCode :=
  if n = m.limit then (match K with
    | [] => [⟨i, tick, tick, 1, row, true⟩]
    | x :: _ => if x.active = true then K else [{ x with active := true, last := tick, count := min (x.count + 1) 1000 }])
  else if n = 0 then (match K with
    | [] => []
    | x :: _ => [{ x with active := false }])
  else K
/-- its calm, and the code behind that -/
def calmM (m : MMon) (c : Int) (K : List MCode) : Int × List MCode :=
  match K with
  | [] => (0, [])
  | x :: r => if x.active = false then (if c + 1 = m.heal then (0, []) else (c + 1, x :: r)) else (0, x :: r)
theorem code_M {l : List MMon} {s : WSt} (h : SOk l s) (hm : monsB l = true) (i : Nat) (tick : Int) (row : List Int) : kOf (codeOf l tick row i s).ks i = codeM (l.getD i dMon) tick row i (s.ns.getD i 0) (kOf s.ks i) := by
  have ha := h.ascC (monsB_len hm)
  unfold codeOf codeM
  by_cases h1 : s.ns.getD i 0 = (l.getD i dMon).limit
  · rw [if_pos h1, if_pos h1]
    rcases hh : hasS s.ks i
    · rw [if_neg (by decide)]
      have h0 := kOf_nil.1 hh
      rw [h0]
      have h0' := h0
      rw [kOf_cut s.ks (findS s.ks i), List.append_eq_nil_iff] at h0'
      show kOf (s.ks.take _ ++ _ :: s.ks.drop _) i = _
      rw [kOf_ins, h0'.1, h0'.2, kOf_eq rfl]
      rfl
    · rw [if_pos rfl]
      obtain ⟨e1, e2, e3⟩ := kOf_one ha hh
      have hat := has_at ha hh
      by_cases h2 : (s.ks.getD (findS s.ks i) dCode).active = true
      · rw [if_pos h2, e1]
        simp only [h2, if_true]
      · rw [if_neg h2, e1]
        simp only [h2]
        show kOf (s.ks.set _ _) i = _
        rw [kOf_set hat.1, e2, e3, kOf_eq (by exact hat.2)]
        rfl
  · rw [if_neg h1, if_neg h1]
    rcases hh : hasS s.ks i
    · rw [if_neg (by simp)]
      rw [kOf_nil.1 hh]
      split <;> rfl
    · obtain ⟨e1, e2, e3⟩ := kOf_one ha hh
      have hat := has_at ha hh
      by_cases h2 : s.ns.getD i 0 = 0
      · rw [if_pos ⟨h2, rfl⟩, if_pos h2, e1]
        show kOf (s.ks.set _ _) i = _
        rw [kOf_set hat.1, e2, e3, kOf_eq (by exact hat.2)]
        rfl
      · rw [if_neg (fun h => h2 h.1), if_neg h2]
theorem calm_M {l : List MMon} {s : WSt} (h : SOk l s) (hm : monsB l = true) {i : Nat} (hi : i < s.cs.length) : ((calmOf l i s).cs.getD i 0, kOf (calmOf l i s).ks i) = calmM (l.getD i dMon) (s.cs.getD i 0) (kOf s.ks i) := by
  have ha := h.ascC (monsB_len hm)
  unfold calmOf calmM
  rcases hh : hasS s.ks i
  · rw [if_neg (by simp), kOf_nil.1 hh]
    show ((s.cs.set i _).getD i 0, _) = _
    rw [getD_set _ _ _ _ hi, if_pos rfl]
  · obtain ⟨e1, e2, e3⟩ := kOf_one ha hh
    have hat := has_at ha hh
    rw [e1]
    by_cases h2 : (s.ks.getD (findS s.ks i) dCode).active = false
    · rw [if_pos ⟨rfl, h2⟩]
      simp only [h2, if_true]
      by_cases h3 : s.cs.getD i 0 + 1 = (l.getD i dMon).heal
      · rw [if_pos h3, if_pos h3]
        show ((s.cs.set i _).getD i 0, kOf (s.ks.eraseIdx _) i) = _
        rw [getD_set _ _ _ _ hi, if_pos rfl, kOf_erase, e2, e3]
        rfl
      · rw [if_neg h3, if_neg h3]
        show ((s.cs.set i _).getD i 0, kOf s.ks i) = _
        rw [getD_set _ _ _ _ hi, if_pos rfl, e1]
    · rw [if_neg (fun h => h2 h.2)]
      simp only [h2, Bool.true_eq_false, if_false]
      show ((s.cs.set i _).getD i 0, kOf s.ks i) = _
      rw [getD_set _ _ _ _ hi, if_pos rfl, e1]
/-- what a tick makes of one monitor -/
def countM (m : MMon) (row : List Int) (n : Int) : Int := cntS m (row.getD m.sig.toNat 0) n
def stepM (m : MMon) (tick : Int) (row : List Int) (i : Int) (n c : Int) (K : List MCode) : Int × Int × List MCode :=
  (countM m row n, calmM m c (codeM m tick row i (countM m row n) K))
def perM (s : WSt) (i : Nat) : Int × Int × List MCode := (s.ns.getD i 0, s.cs.getD i 0, kOf s.ks i)
theorem step_own {l : List MMon} {s : WSt} (h : SOk l s) (hm : monsB l = true) {i : Nat} (hi : i < l.length) (tick : Int) (row : List Int) :
    perM (stepOf l tick row i s) i = stepM (l.getD i dMon) tick row i (s.ns.getD i 0) (s.cs.getD i 0) (kOf s.ks i) := by
  have h1 := h.cnted hm hi row
  have h2 := h1.coded hm hi tick row
  have en : (cntOf l row i s).ns.getD i 0 = countM (l.getD i dMon) row (s.ns.getD i 0) := by
    unfold cntOf
    show (s.ns.set i _).getD i 0 = _
    rw [getD_set _ _ _ _ (by rw [h.ns]; exact hi), if_pos rfl]
    rfl
  have e1 := calm_M h2 hm (i := i) (by rw [h2.cs]; exact hi)
  rw [code_M h1 hm, cs_coded, en] at e1
  unfold perM stepM
  show ((calmOf l i (codeOf l tick row i (cntOf l row i s))).ns.getD i 0, _) = _
  rw [ns_calmed, ns_coded, en]
  exact congrArg _ e1
theorem step_other {l : List MMon} {s : WSt} (h : SOk l s) (hm : monsB l = true) {i j : Nat} (hi : i < l.length) (hj : j ≠ i) (tick : Int) (row : List Int) : perM (stepOf l tick row i s) j = perM s j := by
  have h1 := h.cnted hm hi row
  have h2 := h1.coded hm hi tick row
  have hne : (i : Int) ≠ j := by omega
  unfold perM
  show ((calmOf l i (codeOf l tick row i (cntOf l row i s))).ns.getD j 0, (calmOf l i (codeOf l tick row i (cntOf l row i s))).cs.getD j 0, kOf (calmOf l i (codeOf l tick row i (cntOf l row i s))).ks j) = _
  rw [ns_calmed, ns_coded, cs_calmed (by rw [h2.cs]; exact hi) hj, cs_coded, kOf_calmed h2 hm hne, kOf_coded h1 hm hne]
  unfold cntOf
  show ((s.ns.set i _).getD j 0, _) = _
  rw [getD_set _ _ _ _ (by rw [h.ns]; exact hi), if_neg hj]
theorem steps_per {l : List MMon} {s : WSt} (h : SOk l s) (hm : monsB l = true) (tick : Int) (row : List Int) (j : Nat) : ∀ i, i ≤ l.length →
    perM (stepsOf l tick row s i) j = if j < i then stepM (l.getD j dMon) tick row j (s.ns.getD j 0) (s.cs.getD j 0) (kOf s.ks j) else perM s j
  | 0, _ => by rw [if_neg (by omega)]; rfl
  | i + 1, hi => by
    have ih := steps_per h hm tick row j i (by omega)
    have hs := h.steps hm tick row i (by omega)
    show perM (stepOf l tick row i (stepsOf l tick row s i)) j = _
    by_cases hji : j = i
    · subst hji
      rw [step_own hs hm (by omega), if_pos (by omega)]
      rw [if_neg (by omega)] at ih
      unfold perM at ih
      injection ih with a ih
      injection ih with b c
      rw [a, b, c]
    · rw [step_other hs hm (by omega) hji, ih]
      by_cases hlt : j < i
      · rw [if_pos hlt, if_pos (by omega)]
      · rw [if_neg hlt, if_neg (by omega)]
theorem tick_per {l : List MMon} {s : WSt} (h : SOk l s) (hm : monsB l = true) (tick : Int) (row : List Int) {j : Nat} (hj : j < l.length) :
    perM (tickOf l tick row s) j = stepM (l.getD j dMon) tick row j (s.ns.getD j 0) (s.cs.getD j 0) (kOf s.ks j) := by
  unfold tickOf
  rw [steps_per h hm tick row j _ (Nat.le_refl _), if_pos hj]
end Go.Proofs.YtonpemikodajdaaDoor
