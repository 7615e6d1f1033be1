/- What a tick makes of a watcher's memory, in plain words; each step of it is a step of the walk. -/
import Derived.Test.YtonpemikodajdaaDoorWi
namespace Go.Proofs.YtonpemikodajdaaDoor
open Go.RowKit

/-- where the code of a monitor stands, or would stand -/
def findS (ks : List MCode) (t : Int) : Nat := (ks.takeWhile (fun c => decide (c.mon < t))).length
def hasS (ks : List MCode) (t : Int) : Bool := ks.any (fun c => decide (c.mon = t))
theorem findS_le (ks : List MCode) (t : Int) : findS ks t ≤ ks.length := by
  unfold findS
  exact (List.takeWhile_sublist _).length_le
theorem AscC.tail {c : MCode} {r : List MCode} (h : AscC (c :: r)) : AscC r := by
  refine ⟨fun i j hij hj => ?_, fun i hi => ?_⟩
  · have := h.1 (i + 1) (j + 1) (by omega) (by simpa using hj)
    simpa using this
  · have := h.2 (i + 1) (by simpa using hi)
    simpa using this
theorem find_S {ks : List MCode} (h : AscC ks) (t : Int) : FindP ks t (findS ks t) (hasS ks t) := by
  induction ks with
  | nil => exact ⟨Nat.le_refl _, fun k hk => (by simp [findS] at hk), fun _ _ hk => (by cases hk), (by simp [hasS])⟩
  | cons c r ih =>
    obtain ⟨h1, h2, h3, h4⟩ := ih h.tail
    have hc : ∀ k, k < r.length → c.mon < (r.getD k dCode).mon := fun k hk => by
      have := h.1 0 (k + 1) (by omega) (by simpa using hk)
      simpa using this
    by_cases hlt : c.mon < t
    · have e : findS (c :: r) t = findS r t + 1 := by simp [findS, hlt]
      have e2 : hasS (c :: r) t = hasS r t := by
        unfold hasS
        rw [List.any_cons, decide_eq_false (by omega : ¬ c.mon = t)]; rfl
      rw [e, e2]
      refine ⟨by simpa using h1, fun k hk => ?_, fun k hk hkl => ?_, ?_⟩
      · cases k with
        | zero => simpa using hlt
        | succ k => have := h2 k (by omega); simpa using this
      · cases k with
        | zero => omega
        | succ k => have := h3 k (by omega) (by simpa using hkl); simpa using this
      · rw [h4]; simp
    · have e : findS (c :: r) t = 0 := by simp [findS, hlt]
      rw [e]
      refine ⟨Nat.zero_le _, fun k hk => by omega, fun k _ hkl => ?_, ?_⟩
      · cases k with
        | zero => simp; omega
        | succ k => have := hc k (by simpa using hkl); simp at this ⊢; omega
      · by_cases he : c.mon = t
        · simp [hasS, he]
        · have hno : hasS (c :: r) t = false := by
            unfold hasS
            rw [List.any_eq_false]
            intro x hx
            rcases List.mem_cons.1 hx with rfl | hx
            · simpa using he
            · obtain ⟨k, hk, rfl⟩ := List.mem_iff_getElem.1 hx
              have := hc k hk
              rw [List.getD_eq_getElem?_getD, List.getElem?_eq_getElem hk] at this
              simp at this ⊢
              omega
          rw [hno]
          simp [he]
def cntOf (l : List MMon) (row : List Int) (i : Nat) (s : WSt) : WSt := { s with ns := s.ns.set i (cntS (l.getD i dMon) (row.getD (l.getD i dMon).sig.toNat 0) (s.ns.getD i 0)) }
def codeOf (l : List MMon) (tick : Int) (row : List Int) (i : Nat) (s : WSt) : WSt :=
  if s.ns.getD i 0 = (l.getD i dMon).limit then
    if hasS s.ks i = true then
      if (s.ks.getD (findS s.ks i) dCode).active = true then s
      else { s with ks := s.ks.set (findS s.ks i) { s.ks.getD (findS s.ks i) dCode with active := true, last := tick, count := min ((s.ks.getD (findS s.ks i) dCode).count + 1) 1000 } }
    else { s with ks := s.ks.take (findS s.ks i) ++ ⟨i, tick, tick, 1, row, true⟩ :: s.ks.drop (findS s.ks i) }
  else if s.ns.getD i 0 = 0 ∧ hasS s.ks i = true then { s with ks := s.ks.set (findS s.ks i) { s.ks.getD (findS s.ks i) dCode with active := false } }
  else s
def calmOf (l : List MMon) (i : Nat) (s : WSt) : WSt :=
  if hasS s.ks i = true ∧ (s.ks.getD (findS s.ks i) dCode).active = false then
    if s.cs.getD i 0 + 1 = (l.getD i dMon).heal then { s with cs := s.cs.set i 0, ks := s.ks.eraseIdx (findS s.ks i) }
    else { s with cs := s.cs.set i (s.cs.getD i 0 + 1) }
  else { s with cs := s.cs.set i 0 }
def stepOf (l : List MMon) (tick : Int) (row : List Int) (i : Nat) (s : WSt) : WSt := calmOf l i (codeOf l tick row i (cntOf l row i s))
/-- the state behind the first i monitors' steps -/
def stepsOf (l : List MMon) (tick : Int) (row : List Int) (s : WSt) : Nat → WSt
  | 0 => s
  | i + 1 => stepOf l tick row i (stepsOf l tick row s i)
def tickOf (l : List MMon) (tick : Int) (row : List Int) (s : WSt) : WSt := stepsOf l tick row s l.length
def begOf (l : List MMon) : WSt := ⟨List.replicate l.length 0, List.replicate l.length 0, []⟩
/-- the state behind the first k rows -/
def watchOf (l : List MMon) (rs : List (List Int)) : Nat → WSt
  | 0 => begOf l
  | k + 1 => tickOf l k (rs.getD k []) (watchOf l rs k)
/-- what every state of a watcher is -/
structure SOk (l : List MMon) (s : WSt) : Prop where
  ns : s.ns.length = l.length
  cs : s.cs.length = l.length
  asc : (s.ks.map MCode.mon).Pairwise (· < ·)
  ok : ∀ c ∈ s.ks, (0 ≤ c.mon ∧ c.mon < l.length) ∧ 1 ≤ c.count ∧ c.count ≤ 1000
  lim : ∀ i, i < l.length → 0 ≤ s.ns.getD i 0 ∧ s.ns.getD i 0 ≤ (l.getD i dMon).limit
  heal : ∀ i, i < l.length → 0 ≤ s.cs.getD i 0 ∧ s.cs.getD i 0 < (l.getD i dMon).heal
theorem getD_mem {ks : List MCode} {i : Nat} (h : i < ks.length) : ks.getD i dCode ∈ ks := by
  rw [List.getD_eq_getElem?_getD, List.getElem?_eq_getElem h]
  exact List.getElem_mem h
theorem asc_of {ks : List MCode} {n : Nat} (hn : n ≤ 1000000) (h : (ks.map MCode.mon).Pairwise (· < ·)) (hb : ∀ c ∈ ks, 0 ≤ c.mon ∧ c.mon < n) : AscC ks := by
  refine ⟨fun i j hij hj => ?_, fun i hi => ?_⟩
  · rw [List.pairwise_iff_getElem] at h
    have := h i j (by simp; omega) (by simpa using hj) hij
    simp only [List.getElem_map] at this
    rw [List.getD_eq_getElem?_getD, List.getElem?_eq_getElem (by omega), List.getD_eq_getElem?_getD, List.getElem?_eq_getElem hj]
    exact this
  · have := hb _ (getD_mem hi)
    omega
theorem SOk.ascC {l : List MMon} {s : WSt} (h : SOk l s) (hl : l.length ≤ 20) : AscC s.ks := asc_of (n := l.length) (by omega) h.asc fun c hc => (h.ok c hc).1
theorem SOk.few {l : List MMon} {s : WSt} (h : SOk l s) (hl : l.length ≤ 20) : s.ks.length ≤ l.length := by
  rcases Nat.eq_zero_or_pos s.ks.length with h0 | h0
  · omega
  · have ha := h.ascC hl
    have key : ∀ i, i < s.ks.length → (i : Int) ≤ (s.ks.getD i dCode).mon := by
      intro i
      induction i with
      | zero => intro hi; have := (ha.2 0 hi).1; simpa using this
      | succ i ih =>
        intro hi
        have := ih (by omega)
        have := ha.1 i (i + 1) (by omega) hi
        omega
    have h1 := key (s.ks.length - 1) (by omega)
    have h2 := (h.ok _ (getD_mem (show s.ks.length - 1 < s.ks.length by omega))).1.2
    omega
theorem mon_at {l : List MMon} (h : monsB l = true) {i : Nat} (hi : i < l.length) : l[i]? = some (l.getD i dMon) ∧ monB (l.getD i dMon) = true := by
  have e : l[i]? = some (l.getD i dMon) := by rw [List.getD_eq_getElem?_getD, List.getElem?_eq_getElem hi]; rfl
  exact ⟨e, (mon_ok h e).1⟩
theorem monsB_len {l : List MMon} (h : monsB l = true) : l.length ≤ 20 := by
  unfold monsB at h
  rw [Bool.and_eq_true, decide_eq_true_eq] at h
  exact h.1
theorem SOk.cnted {l : List MMon} {s : WSt} (h : SOk l s) (hm : monsB l = true) {i : Nat} (hi : i < l.length) (row : List Int) : SOk l (cntOf l row i s) := by
  have hb := monB_bounds (mon_at hm hi).2
  refine ⟨by unfold cntOf; simpa using h.ns, h.cs, h.asc, h.ok, fun j hj => ?_, h.heal⟩
  unfold cntOf
  show 0 ≤ (s.ns.set i _).getD j 0 ∧ (s.ns.set i _).getD j 0 ≤ _
  rw [getD_set _ _ _ _ (by rw [h.ns]; exact hi)]
  by_cases hji : j = i
  · subst hji
    rw [if_pos rfl]
    have h1 := h.lim j hi
    unfold cntS
    split <;> omega
  · rw [if_neg hji]
    exact h.lim j hj
theorem map_set_same {ks : List MCode} {i : Nat} {c : MCode} (hi : i < ks.length) (hc : c.mon = (ks.getD i dCode).mon) : (ks.set i c).map MCode.mon = ks.map MCode.mon := by
  rw [List.map_set, hc, List.getD_eq_getElem?_getD, List.getElem?_eq_getElem hi]
  show (ks.map MCode.mon).set i (ks[i].mon) = _
  apply List.ext_getElem?
  intro j
  rw [List.getElem?_set]
  by_cases h : i = j
  · subst h
    simp [hi]
  · rw [if_neg h]
theorem SOk.setKs {l : List MMon} {s : WSt} (h : SOk l s) {i : Nat} {c : MCode} (hi : i < s.ks.length) (hc : c.mon = (s.ks.getD i dCode).mon) (h1 : 1 ≤ c.count ∧ c.count ≤ 1000) : SOk l { s with ks := s.ks.set i c } := by
  refine ⟨h.ns, h.cs, by show ((s.ks.set i c).map MCode.mon).Pairwise _; rw [map_set_same hi hc]; exact h.asc, fun d hd => ?_, h.lim, h.heal⟩
  rcases mem_set_or hd with rfl | hd
  · exact ⟨hc ▸ (h.ok _ (getD_mem hi)).1, h1⟩
  · exact h.ok d hd
theorem has_at {ks : List MCode} {t : Int} (ha : AscC ks) (h : hasS ks t = true) : findS ks t < ks.length ∧ (ks.getD (findS ks t) dCode).mon = t := (find_S ha t).2.2.2.1 h
theorem asc_insert {ks : List MCode} {t : Int} {c : MCode} (hp : (ks.map MCode.mon).Pairwise (· < ·)) (ha : AscC ks) (h : hasS ks t = false) (hc : c.mon = t) : ((ks.take (findS ks t) ++ c :: ks.drop (findS ks t)).map MCode.mon).Pairwise (· < ·) := by
  obtain ⟨h1, h2, h3, h4⟩ := find_S ha t
  have hno : ∀ d ∈ ks, d.mon ≠ t := fun d hd e => by
    unfold hasS at h
    rw [List.any_eq_false] at h
    exact h d hd (by simpa using e)
  have hsplit : ks.map MCode.mon = (ks.take (findS ks t)).map MCode.mon ++ (ks.drop (findS ks t)).map MCode.mon := by rw [← List.map_append, List.take_append_drop]
  rw [hsplit, List.pairwise_append] at hp
  obtain ⟨p1, p2, p3⟩ := hp
  have hlow : ∀ x ∈ (ks.take (findS ks t)).map MCode.mon, x < t := fun x hx => by
    obtain ⟨d, hd, rfl⟩ := List.mem_map.1 hx
    obtain ⟨k, hk, rfl⟩ := List.mem_iff_getElem.1 hd
    rw [List.length_take] at hk
    have := h2 k (by omega)
    rw [List.getD_eq_getElem?_getD, List.getElem?_eq_getElem (by omega)] at this
    rw [List.getElem_take]
    exact this
  have hhigh : ∀ x ∈ (ks.drop (findS ks t)).map MCode.mon, t < x := fun x hx => by
    obtain ⟨d, hd, rfl⟩ := List.mem_map.1 hx
    have hdk := List.mem_of_mem_drop hd
    obtain ⟨k, hk, rfl⟩ := List.mem_iff_getElem.1 hd
    rw [List.length_drop] at hk
    have := h3 (findS ks t + k) (by omega) (by omega)
    rw [List.getD_eq_getElem?_getD, List.getElem?_eq_getElem (by omega)] at this
    rw [List.getElem_drop] at hdk ⊢
    have hn := hno _ hdk
    have this : t ≤ (ks[findS ks t + k]).mon := this
    omega
  rw [List.map_append, List.map_cons, List.pairwise_append]
  refine ⟨p1, List.pairwise_cons.2 ⟨fun x hx => by rw [hc]; exact hhigh x hx, p2⟩, fun x hx y hy => ?_⟩
  rcases List.mem_cons.1 hy with rfl | hy
  · rw [hc]; exact hlow x hx
  · exact p3 x hx y hy
theorem SOk.coded {l : List MMon} {s : WSt} (h : SOk l s) (hm : monsB l = true) {i : Nat} (hi : i < l.length) (tick : Int) (row : List Int) : SOk l (codeOf l tick row i s) := by
  have ha := h.ascC (monsB_len hm)
  unfold codeOf
  split
  · split
    · rename_i hh
      have hat := has_at ha hh
      split
      · exact h
      · exact h.setKs hat.1 rfl (by have := (h.ok _ (getD_mem hat.1)).2; show 1 ≤ min _ _ ∧ min _ _ ≤ _; omega)
    · rename_i hh
      have hh : hasS s.ks i = false := by simpa using hh
      refine ⟨h.ns, h.cs, asc_insert h.asc ha hh rfl, fun d hd => ?_, h.lim, h.heal⟩
      rcases List.mem_append.1 hd with hd | hd
      · exact h.ok d (List.mem_of_mem_take hd)
      · rcases List.mem_cons.1 hd with rfl | hd
        · exact ⟨⟨by show (0 : Int) ≤ i; omega, by show (i : Int) < _; omega⟩, Int.le_refl 1, (by show (1 : Int) ≤ 1000; omega)⟩
        · exact h.ok d (List.mem_of_mem_drop hd)
  · split
    · rename_i hh
      have hat := has_at ha hh.2
      exact h.setKs hat.1 rfl (h.ok _ (getD_mem hat.1)).2
    · exact h
theorem SOk.setCs {l : List MMon} {s : WSt} (h : SOk l s) {i : Nat} (hi : i < l.length) {n : Int} (hn : 0 ≤ n ∧ n < (l.getD i dMon).heal) : SOk l { s with cs := s.cs.set i n } := by
  refine ⟨h.ns, by show (s.cs.set i n).length = _; simpa using h.cs, h.asc, h.ok, h.lim, fun j hj => ?_⟩
  show 0 ≤ (s.cs.set i n).getD j 0 ∧ (s.cs.set i n).getD j 0 < _
  rw [getD_set _ _ _ _ (by rw [h.cs]; exact hi)]
  by_cases hji : j = i
  · subst hji
    rw [if_pos rfl]
    exact hn
  · rw [if_neg hji]
    exact h.heal j hj
theorem SOk.calmed {l : List MMon} {s : WSt} (h : SOk l s) (hm : monsB l = true) {i : Nat} (hi : i < l.length) : SOk l (calmOf l i s) := by
  have hb := monB_bounds (mon_at hm hi).2
  have hh := h.heal i hi
  unfold calmOf
  split
  · split
    · have h1 := h.setCs hi (n := 0) (by omega)
      exact ⟨h1.ns, h1.cs, h1.asc.sublist ((List.eraseIdx_sublist _ _).map _), fun d hd => h1.ok d (List.mem_of_mem_eraseIdx hd), h1.lim, h1.heal⟩
    · exact h.setCs hi (by omega)
  · exact h.setCs hi (by omega)
theorem SOk.stepped {l : List MMon} {s : WSt} (h : SOk l s) (hm : monsB l = true) {i : Nat} (hi : i < l.length) (tick : Int) (row : List Int) : SOk l (stepOf l tick row i s) :=
  ((h.cnted hm hi row).coded hm hi tick row).calmed hm hi
theorem SOk.steps {l : List MMon} {s : WSt} (h : SOk l s) (hm : monsB l = true) (tick : Int) (row : List Int) : ∀ i, i ≤ l.length → SOk l (stepsOf l tick row s i)
  | 0, _ => h
  | i + 1, hi => (SOk.steps h hm tick row i (by omega)).stepped hm hi tick row
theorem SOk.ticked {l : List MMon} {s : WSt} (h : SOk l s) (hm : monsB l = true) (tick : Int) (row : List Int) : SOk l (tickOf l tick row s) := h.steps hm tick row _ (Nat.le_refl _)
theorem SOk.beg {l : List MMon} (hm : monsB l = true) : SOk l (begOf l) := by
  have hz : ∀ i, (List.replicate l.length (0 : Int)).getD i 0 = 0 := fun i => by
    rw [List.getD_eq_getElem?_getD, List.getElem?_replicate]; split <;> rfl
  refine ⟨by simp [begOf], by simp [begOf], List.Pairwise.nil, fun c hc => (by cases hc), fun i hi => ?_, fun i hi => ?_⟩
  · have hb := monB_bounds (mon_at hm hi).2
    show 0 ≤ (List.replicate _ _).getD i 0 ∧ (List.replicate _ _).getD i 0 ≤ _
    rw [hz]; omega
  · have hb := monB_bounds (mon_at hm hi).2
    show 0 ≤ (List.replicate _ _).getD i 0 ∧ (List.replicate _ _).getD i 0 < _
    rw [hz]; omega
theorem SOk.watched {l : List MMon} (hm : monsB l = true) (rs : List (List Int)) : ∀ k, SOk l (watchOf l rs k)
  | 0 => SOk.beg hm
  | k + 1 => (SOk.watched hm rs k).ticked hm _ _
section
variable {B wb : Nat} {A : Option Addr} {lc : Caps} {l : List MMon} {tick : Int} {cb kb : Nat} {R : Option Addr} {rc : Nat} {row : List Int} {i : Nat} {s : WSt}
theorem codeC_ins (hl : l.length ≤ 20) {m : MMon} (hm : l[i]? = some m) (hi : i < l.length) (hks : s.ks.length ≤ 1000000) (hasc : AscC s.ks) (hrl : row.length ≤ 1000) {ix : Nat} (hf : FindP s.ks i ix false) (hn : s.ns.getD i 0 = m.limit) :
    CodeC B wb A lc l tick cb kb R rc row i s { s with ks := s.ks.take ix ++ ⟨i, tick, tick, 1, row, true⟩ :: s.ks.drop ix } := fun w hT hrow => by
  obtain ⟨e1, e2, V, K, e3, hS⟩ := hT
  have hlen : K.length = s.ks.length := by rw [← e3, List.length_map]
  refine (code_ins hS hl (by rw [hlen]; exact hks) (by rw [e3]; exact hasc) i hi m hm R rc row hrow hrl ix (by rw [e3]; exact hf) hn).mono ?_
  rintro e w' ⟨h3, ⟨V', v, h4⟩, h5⟩
  exact ⟨h3, ⟨e1, e2, V', _, by rw [List.map_append, List.map_cons, List.map_take, List.map_drop, e3], h4⟩, h5⟩
theorem codeC_of (h : SOk l s) (hm : monsB l = true) (hi : i < l.length) (hrl : row.length ≤ 1000) : CodeC B wb A lc l tick cb kb R rc row i s (codeOf l tick row i s) := by
  have hl := monsB_len hm
  have ha := h.ascC hl
  have hks : s.ks.length ≤ 1000000 := by have := h.few hl; omega
  obtain ⟨hmi, hmb⟩ := mon_at hm hi
  have hb := monB_bounds hmb
  have hf := find_S ha (i : Int)
  unfold codeOf
  by_cases h1 : s.ns.getD i 0 = (l.getD i dMon).limit
  · rw [if_pos h1]
    by_cases h2 : hasS s.ks i = true
    · rw [if_pos h2]
      have hat := has_at ha h2
      rw [h2] at hf
      have hc : s.ks[findS s.ks i]? = some (s.ks.getD (findS s.ks i) dCode) := by rw [List.getD_eq_getElem?_getD, List.getElem?_eq_getElem hat.1]; rfl
      by_cases h3 : (s.ks.getD (findS s.ks i) dCode).active = true
      · rw [if_pos h3]
        exact codeC_keep hl hmi hi hks ha hf hc h3 h1 (by omega)
      · rw [if_neg h3]
        exact codeC_again hl hmi hi hks ha hf hc (by simpa using h3) h1 (by have := (h.ok _ (getD_mem hat.1)).2; omega)
    · rw [if_neg h2]
      have h2 : hasS s.ks i = false := by simpa using h2
      rw [h2] at hf
      exact codeC_ins hl hmi hi hks ha hrl hf h1
  · rw [if_neg h1]
    by_cases h2 : s.ns.getD i 0 = 0 ∧ hasS s.ks i = true
    · rw [if_pos h2]
      have hat := has_at ha h2.2
      rw [h2.2] at hf
      have hc : s.ks[findS s.ks i]? = some (s.ks.getD (findS s.ks i) dCode) := by rw [List.getD_eq_getElem?_getD, List.getElem?_eq_getElem hat.1]; rfl
      exact codeC_off hl hmi hi hks ha hf hc h2.1 (by omega)
    · rw [if_neg h2]
      refine codeC_none hl hmi hi hks ha _ _ hf h1 ?_
      by_cases h3 : s.ns.getD i 0 = 0
      · exact .inr (by simpa using fun h4 => h2 ⟨h3, h4⟩)
      · exact .inl h3
theorem calmC_of (h : SOk l s) (hm : monsB l = true) (hi : i < l.length) : CalmC B wb A lc l tick cb kb i s (calmOf l i s) := by
  have hl := monsB_len hm
  have ha := h.ascC hl
  have hks : s.ks.length ≤ 1000000 := by have := h.few hl; omega
  obtain ⟨hmi, hmb⟩ := mon_at hm hi
  have hb := monB_bounds hmb
  have hf := find_S ha (i : Int)
  have hh := h.heal i hi
  unfold calmOf
  by_cases h1 : hasS s.ks i = true ∧ (s.ks.getD (findS s.ks i) dCode).active = false
  · rw [if_pos h1]
    rw [h1.1] at hf
    by_cases h2 : s.cs.getD i 0 + 1 = (l.getD i dMon).heal
    · rw [if_pos h2]
      exact calmC_gone hl hmi hi hks ha hf h1.2 (by omega) h2
    · rw [if_neg h2]
      exact calmC_more hl hmi hi hks ha hf h1.2 (by omega) h2
  · rw [if_neg h1]
    refine calmC_zero hl hi hks ha _ _ hf ?_
    by_cases h2 : hasS s.ks i = true
    · exact .inr (by simpa using fun h3 => h1 ⟨h2, h3⟩)
    · exact .inl (by simpa using h2)
end
theorem tickC_of {l : List MMon} {tick : Int} {row : List Int} {s : WSt} (h : SOk l s) (hm : monsB l = true) (hlaw : lawB l row = true) (ht : 0 ≤ tick ∧ tick ≤ 1000000) : TickC l tick row s (tickOf l tick row s) := fun w B wb A lc cb kb R rc hT hrow => by
  have hrl : row.length ≤ 1000 := by
    unfold lawB inB at hlaw
    simp only [Bool.and_eq_true, decide_eq_true_eq] at hlaw
    omega
  refine tick_any R rc row (stepsOf l tick row s) (fun i => codeOf l tick row i (cntOf l row i (stepsOf l tick row s i))) hT hm hrow hlaw ht (fun i hi => ?_) (fun i m hmi => ?_) (fun i hi => ?_)
  · have h1 := (h.steps hm tick row i (by omega)).lim i hi
    have hb := monB_bounds (mon_at hm hi).2
    omega
  · have hi : i < l.length := (List.getElem?_eq_some_iff.1 hmi).1
    have e : m = l.getD i dMon := by
      have := (mon_at hm hi).1
      rw [hmi] at this
      injection this
    rw [e]
    exact codeC_of ((h.steps hm tick row i (by omega)).cnted hm hi row) hm hi hrl
  · exact calmC_of (((h.steps hm tick row i (by omega)).cnted hm hi row).coded hm hi tick row) hm hi
theorem watch_of (A : Option Addr) (lc : Nat) (l : List MMon) (A2 : Option Addr) (rc : Nat) (rs : List (List Int)) (w : World) (h : MonsA w w.heap.size A l) (hr : RowsA w w.heap.size A2 rs) :
    Calls Tryd.prog 15 #[.slice A l.length lc, .slice A2 rs.length rc] w (WatchPost w l rs (watchOf l rs rs.length)) := by
  refine watch_any A lc l A2 rc rs w h hr (watchOf l rs) rfl (fun hE k row hk => ?_)
  have hlt : k < rs.length := (List.getElem?_eq_some_iff.1 hk).1
  unfold watchE at hE
  have hm : monsB l = true := by
    rcases hq : monsB l
    · rw [hq, if_neg (by decide)] at hE; exact absurd hE (by decide)
    · rfl
  rw [if_pos hm] at hE
  have hn : ¬ rs.length > 500 := fun hq => by rw [if_pos hq] at hE; exact absurd hE (by decide)
  rw [if_neg hn] at hE
  have hlaw : rs.all (lawB l) = true := by
    rcases hq : rs.all (lawB l)
    · rw [hq] at hE; exact absurd hE (by decide)
    · rfl
  have e : rs.getD k [] = row := by rw [List.getD_eq_getElem?_getD, hk]; rfl
  show TickC l k row (watchOf l rs k) (tickOf l k (rs.getD k []) (watchOf l rs k))
  rw [e]
  exact tickC_of (SOk.watched hm rs k) hm (List.all_eq_true.1 hlaw row (List.mem_of_getElem? hk)) (by omega)
end Go.Proofs.YtonpemikodajdaaDoor
