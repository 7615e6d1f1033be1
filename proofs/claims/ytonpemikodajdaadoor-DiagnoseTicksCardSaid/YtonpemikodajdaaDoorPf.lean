/- Plain: a memory that fits, in plain words; it fits behind each tick. -/
import Derived.Test.YtonpemikodajdaaDoorPs
namespace Go.Proofs.YtonpemikodajdaaDoor
open Go.RowKit

def perF (m : MMon) (p : Int × Int × List MCode) : Prop :=
  (0 ≤ p.1 ∧ p.1 ≤ m.limit) ∧ (0 ≤ p.2.1 ∧ p.2.1 ≤ m.heal - 1) ∧ (match p.2.2 with
    | [] => p.1 ≠ m.limit ∧ p.2.1 ≤ 0
    | x :: _ => if x.active = true then 1 ≤ p.1 ∧ p.2.1 ≤ 0 else p.1 ≠ m.limit)
theorem act_kOf {ks : List MCode} (ha : AscC ks) (i : Int) : actS ks i = (match kOf ks i with | [] => false | x :: _ => x.active) := by
  unfold actS
  rcases hh : hasS ks i
  · rw [kOf_nil.1 hh]; rfl
  · rw [(kOf_one ha hh).1]; rfl
theorem has_kOf (ks : List MCode) (i : Int) : hasS ks i = (match kOf ks i with | [] => false | _ :: _ => true) := by
  rcases hh : hasS ks i
  · rw [kOf_nil.1 hh]
  · rcases hq : kOf ks i with _ | ⟨x, r⟩
    · rw [kOf_nil.2 hq] at hh; cases hh
    · rfl
theorem perOk_iff {l : List MMon} {s : WSt} (ha : AscC s.ks) (i : Nat) : perOk l s i = true ↔ perF (l.getD i dMon) (perM s i) := by
  unfold perOk perF perM
  rw [act_kOf ha, has_kOf]
  simp only [Bool.and_eq_true, inB_iff']
  rcases kOf s.ks i with _ | ⟨x, r⟩
  · simp only [Bool.false_eq_true, if_false, Bool.and_eq_true, Bool.or_eq_true, Bool.not_eq_true', beq_eq_false_iff_ne, decide_eq_false_iff_not, false_or, ne_eq]
    constructor <;> (rintro ⟨h1, h2, h3, h4⟩; refine ⟨h1, h2, h3, by omega⟩)
  · cases hx : x.active
    · simp only [Bool.false_eq_true, if_false, Bool.true_or, Bool.and_true, Bool.not_eq_true', beq_eq_false_iff_ne, ne_eq, hx]
    · simp only [if_true, Bool.and_eq_true, Bool.not_eq_true', decide_eq_false_iff_not, hx]
      constructor <;> (rintro ⟨h1, h2, h3, h4⟩; refine ⟨h1, h2, by omega, by omega⟩)
theorem count_in {m : MMon} (hb : monB m = true) (row : List Int) {n : Int} (hn : 0 ≤ n ∧ n ≤ m.limit) : 0 ≤ countM m row n ∧ countM m row n ≤ m.limit := by
  have := monB_bounds hb
  unfold countM cntS
  split <;> omega
theorem count_top {m : MMon} (hb : monB m = true) {row : List Int} {n : Int} (hn : 0 ≤ n ∧ n ≤ m.limit) (h : countM m row n = m.limit) : inB (row.getD m.sig.toNat 0) m.low m.high = false := by
  have := monB_bounds hb
  unfold countM cntS at h
  rcases hq : inB (row.getD m.sig.toNat 0) m.low m.high
  · rfl
  · rw [hq, if_pos rfl] at h; omega
theorem perF_step {m : MMon} (hb : monB m = true) (tick : Int) (row : List Int) (i : Int) {n c : Int} (hn : 0 ≤ n ∧ n ≤ m.limit) (hc : 0 ≤ c ∧ c ≤ m.heal - 1) (K : List MCode) : perF m (stepM m tick row i n c K) := by
  have hb' := monB_bounds hb
  have h1 := count_in hb row hn
  unfold perF stepM
  generalize countM m row n = n' at *
  refine ⟨h1, ?_⟩
  unfold codeM
  by_cases e1 : n' = m.limit
  · rw [if_pos e1]
    rcases K with _ | ⟨x, r⟩
    · exact ⟨⟨Int.le_refl _, by show (0 : Int) ≤ _; omega⟩, by omega, Int.le_refl _⟩
    · rcases hx : x.active
      · simp only [hx, Bool.false_eq_true, if_false]
        exact ⟨⟨Int.le_refl _, by show (0 : Int) ≤ _; omega⟩, by omega, Int.le_refl _⟩
      · simp only [hx, if_true]
        unfold calmM
        simp only [hx, Bool.true_eq_false, if_false, if_true]
        exact ⟨⟨Int.le_refl _, by omega⟩, by omega, Int.le_refl _⟩
  · rw [if_neg e1]
    by_cases e0 : n' = 0
    · rw [if_pos e0]
      rcases K with _ | ⟨x, r⟩
      · exact ⟨⟨Int.le_refl _, by show (0 : Int) ≤ _; omega⟩, e1, Int.le_refl _⟩
      · simp only
        unfold calmM
        simp only [if_true]
        by_cases h3 : c + 1 = m.heal
        · rw [if_pos h3]
          exact ⟨⟨Int.le_refl _, by show (0 : Int) ≤ _; omega⟩, e1, Int.le_refl _⟩
        · rw [if_neg h3]
          simp only [Bool.false_eq_true, if_false]
          exact ⟨by omega, e1⟩
    · rw [if_neg e0]
      rcases K with _ | ⟨x, r⟩
      · exact ⟨⟨Int.le_refl _, by show (0 : Int) ≤ _; omega⟩, e1, Int.le_refl _⟩
      · unfold calmM
        rcases hx : x.active
        · simp only [hx, if_true]
          by_cases h3 : c + 1 = m.heal
          · rw [if_pos h3]
            exact ⟨⟨Int.le_refl _, by show (0 : Int) ≤ _; omega⟩, e1, Int.le_refl _⟩
          · rw [if_neg h3]
            simp only [hx, Bool.false_eq_true, if_false]
            exact ⟨by omega, e1⟩
        · simp only [hx, Bool.true_eq_false, if_false, if_true]
          exact ⟨⟨Int.le_refl _, by omega⟩, by omega, Int.le_refl _⟩
def codeF (l : List MMon) (t : Int) (c : MCode) : Prop := (0 ≤ c.first ∧ c.first ≤ c.last ∧ c.last < t) ∧ (1 ≤ c.count ∧ c.count ≤ 1000) ∧ lawB l c.frame = true
theorem codeF.more {l : List MMon} {t : Int} {c : MCode} (h : codeF l t c) : codeF l (t + 1) c := ⟨⟨h.1.1, h.1.2.1, by have := h.1.2.2; omega⟩, h.2⟩
theorem calmM_mem {m : MMon} {c : Int} {K : List MCode} {x : MCode} (h : x ∈ (calmM m c K).2) : x ∈ K := by
  unfold calmM at h
  rcases K with _ | ⟨y, r⟩
  · exact h
  · simp only at h
    split at h
    · split at h
      · cases h
      · exact h
    · exact h
theorem codeM_mem {m : MMon} {tick : Int} {row : List Int} {i n : Int} {K : List MCode} {x : MCode} (h : x ∈ codeM m tick row i n K) :
    x ∈ K ∨ (∃ y ∈ K, x = { y with active := false }) ∨ (n = m.limit ∧ (x = ⟨i, tick, tick, 1, row, true⟩ ∨ ∃ y ∈ K, x = { y with active := true, last := tick, count := min (y.count + 1) 1000 })) := by
  unfold codeM at h
  split at h
  · rename_i hn
    rcases K with _ | ⟨y, r⟩
    · exact .inr (.inr ⟨hn, .inl (List.mem_singleton.1 h)⟩)
    · simp only at h
      split at h
      · exact .inl h
      · exact .inr (.inr ⟨hn, .inr ⟨y, List.mem_cons_self .., List.mem_singleton.1 h⟩⟩)
  · split at h
    · rcases K with _ | ⟨y, r⟩
      · exact .inl h
      · exact .inr (.inl ⟨y, List.mem_cons_self .., List.mem_singleton.1 h⟩)
    · exact .inl h
theorem codeF_step {l : List MMon} {m : MMon} {t : Int} {row : List Int} {i n c : Int} {K : List MCode} (ht : 0 ≤ t) (hrow : lawB l row = true) (h : ∀ x ∈ K, codeF l t x) : ∀ x ∈ (stepM m t row i n c K).2.2, codeF l (t + 1) x := fun x hx => by
  rcases codeM_mem (calmM_mem hx) with h1 | ⟨y, hy, rfl⟩ | ⟨_, rfl | ⟨y, hy, rfl⟩⟩
  · exact (h x h1).more
  · exact (h y hy).more
  · exact ⟨⟨ht, Int.le_refl _, by show t < t + 1; omega⟩, ⟨Int.le_refl 1, by show (1 : Int) ≤ 1000; omega⟩, hrow⟩
  · have hy := h y hy
    have h1 := hy.1
    have h2 := hy.2.1
    exact ⟨⟨h1.1, by show y.first ≤ t; omega, by show t < t + 1; omega⟩, ⟨by show 1 ≤ min _ _; omega, by show min _ _ ≤ (1000 : Int); omega⟩, hy.2.2⟩
theorem last_step {m : MMon} (hb : monB m = true) {t : Int} {row : List Int} {i n c : Int} (hn : 0 ≤ n ∧ n ≤ m.limit) {K : List MCode} (h : ∀ x ∈ K, x.last < t) : ∀ x ∈ (stepM m t row i n c K).2.2, x.last = t → x.active = true ∧ inB (row.getD m.sig.toNat 0) m.low m.high = false := fun x hx hl => by
  rcases codeM_mem (calmM_mem hx) with h1 | ⟨y, hy, rfl⟩ | ⟨e, rfl | ⟨y, hy, rfl⟩⟩
  · have := h x h1; omega
  · have := h y hy; have hl : y.last = t := hl; omega
  · exact ⟨rfl, count_top hb hn e⟩
  · exact ⟨rfl, count_top hb hn e⟩
/-- a memory that fits, in plain words -/
structure FOk (l : List MMon) (t : Int) (s : WSt) : Prop where
  ok : SOk l s
  codes : ∀ c ∈ s.ks, codeF l t c
  per : ∀ i, i < l.length → perF (l.getD i dMon) (perM s i)
theorem pairwise_up {ks : List MCode} (h : ∀ k, k + 1 < ks.length → (ks.getD k dCode).mon < (ks.getD (k + 1) dCode).mon) : (ks.map MCode.mon).Pairwise (· < ·) := by
  have key : ∀ d k, k + d + 1 < ks.length → (ks.getD k dCode).mon < (ks.getD (k + d + 1) dCode).mon := by
    intro d
    induction d with
    | zero => exact h
    | succ d ih =>
      intro k hk
      have h1 := ih k (by omega)
      have h2 := h (k + d + 1) (by omega)
      have e : k + (d + 1) + 1 = k + d + 1 + 1 := by omega
      rw [e]
      omega
  rw [List.pairwise_iff_getElem]
  intro i j hi hj hij
  simp only [List.length_map] at hi hj
  have := key (j - i - 1) i (by omega)
  have e : i + (j - i - 1) + 1 = j := by omega
  rw [e, List.getD_eq_getElem?_getD, List.getElem?_eq_getElem hi, List.getD_eq_getElem?_getD, List.getElem?_eq_getElem hj] at this
  simp only [List.getElem_map]
  exact this
theorem FOk.of_fit {l : List MMon} {t : Int} {s : WSt} (hm : monsB l = true) (h : fitB l t s = true) : FOk l t s ∧ 0 ≤ t ∧ t ≤ 1000000 := by
  unfold fitB codesOk persOk at h
  simp only [Bool.and_eq_true, decide_eq_true_eq, inB_iff'] at h
  obtain ⟨ht, h1, h2, h3, h4⟩ := h
  have hk : ∀ k, k < s.ks.length → codeOk l t (prevM s.ks k) (s.ks.getD k dCode) = true := fun k hk => range_at h3 hk
  have hp : ∀ i, i < l.length → perOk l s i = true := fun i hi => range_at h4 hi
  obtain ⟨m1, m2⟩ := codesOk_mon hk
  have hF : ∀ c ∈ s.ks, codeF l t c := fun c hc => by
    obtain ⟨k, hkl, rfl⟩ := List.mem_iff_getElem.1 hc
    have := hk k hkl
    rw [List.getD_eq_getElem?_getD, List.getElem?_eq_getElem hkl] at this
    unfold codeOk at this
    simp only [Bool.and_eq_true, decide_eq_true_eq, Option.getD_some] at this
    obtain ⟨⟨_, _, a, b, c, d, e⟩, f⟩ := this
    exact ⟨⟨a, b, c⟩, ⟨d, e⟩, f⟩
  have hasc := pairwise_up m2
  have hmn : ∀ c ∈ s.ks, 0 ≤ c.mon ∧ c.mon < l.length := fun c hc => by
    obtain ⟨k, hkl, rfl⟩ := List.mem_iff_getElem.1 hc
    have := m1 k hkl
    rw [List.getD_eq_getElem?_getD, List.getElem?_eq_getElem hkl] at this
    exact this
  have ha : AscC s.ks := asc_of (n := l.length) (by have := monsB_len hm; omega) hasc hmn
  have hpF : ∀ i, i < l.length → perF (l.getD i dMon) (perM s i) := fun i hi => (perOk_iff ha i).1 (hp i hi)
  refine ⟨⟨⟨h1, h2, hasc, fun c hc => ⟨hmn c hc, (hF c hc).2.1⟩, fun i hi => (hpF i hi).1, fun i hi => ?_⟩, hF, hpF⟩, ht⟩
  have := (hpF i hi).2.1
  exact ⟨this.1, by have := this.2; show s.cs.getD i 0 < _; have e : (perM s i).2.1 = s.cs.getD i 0 := rfl; omega⟩
theorem FOk.fit {l : List MMon} {t : Int} {s : WSt} (hm : monsB l = true) (h : FOk l t s) (ht : 0 ≤ t ∧ t ≤ 1000000) : fitB l t s = true := by
  have ha := h.ok.ascC (monsB_len hm)
  unfold fitB codesOk persOk
  simp only [Bool.and_eq_true, decide_eq_true_eq, inB_iff']
  refine ⟨ht, h.ok.ns, h.ok.cs, range_yes fun k hk => ?_, range_yes fun i hi => (perOk_iff ha i).2 (h.per i hi)⟩
  have hc := h.codes _ (getD_mem hk)
  have ho := h.ok.ok _ (getD_mem hk)
  unfold codeOk
  simp only [Bool.and_eq_true, decide_eq_true_eq]
  refine ⟨⟨?_, ho.1.2, hc.1.1, hc.1.2.1, hc.1.2.2, hc.2.1.1, hc.2.1.2⟩, hc.2.2⟩
  unfold prevM
  split
  · omega
  · exact ha.1 (k - 1) k (by omega) hk
theorem FOk.tick {l : List MMon} {t : Int} {s : WSt} (hm : monsB l = true) (h : FOk l t s) (ht : 0 ≤ t) {row : List Int} (hrow : lawB l row = true) : FOk l (t + 1) (tickOf l t row s) := by
  have h2 := h.ok.ticked hm t row
  have hlim : ∀ i, i < l.length → (0 ≤ s.ns.getD i 0 ∧ s.ns.getD i 0 ≤ (l.getD i dMon).limit) ∧ (0 ≤ s.cs.getD i 0 ∧ s.cs.getD i 0 ≤ (l.getD i dMon).heal - 1) := fun i hi => ⟨h.ok.lim i hi, by have := h.ok.heal i hi; omega⟩
  refine ⟨h2, fun c hc => ?_, fun i hi => ?_⟩
  · obtain ⟨i, hi⟩ : ∃ i : Nat, (i : Int) = c.mon := ⟨c.mon.toNat, by have := (h2.ok c hc).1; omega⟩
    have hil : i < l.length := by have := (h2.ok c hc).1; omega
    have e := (perM_of (tick_per h.ok hm t row hil)).2.2
    have hc' : c ∈ kOf (tickOf l t row s).ks i := kOf_mem.2 ⟨hc, hi.symm⟩
    rw [e] at hc'
    exact codeF_step ht hrow (fun x hx => h.codes x (kOf_mem.1 hx).1) c hc'
  · rw [tick_per h.ok hm t row hi]
    exact perF_step (mon_at hm hi).2 t row i (hlim i hi).1 (hlim i hi).2 _
theorem FOk.last {l : List MMon} {t : Int} {s : WSt} (hm : monsB l = true) (h : FOk l t s) {row : List Int} {c : MCode} (hc : c ∈ (tickOf l t row s).ks) (hl : c.last = t) : c.active = true ∧ inB (row.getD (l.getD c.mon.toNat dMon).sig.toNat 0) (l.getD c.mon.toNat dMon).low (l.getD c.mon.toNat dMon).high = false := by
  have h2 := h.ok.ticked hm t row
  obtain ⟨i, hi⟩ : ∃ i : Nat, (i : Int) = c.mon := ⟨c.mon.toNat, by have := (h2.ok c hc).1; omega⟩
  have hil : i < l.length := by have := (h2.ok c hc).1; omega
  have e := (perM_of (tick_per h.ok hm t row hil)).2.2
  have hc' : c ∈ kOf (tickOf l t row s).ks i := kOf_mem.2 ⟨hc, hi.symm⟩
  rw [e] at hc'
  have hit : c.mon.toNat = i := by omega
  rw [hit]
  exact last_step (mon_at hm hil).2 (h.ok.lim i hil) (fun x hx => (h.codes x (kOf_mem.1 hx).1).1.2.2) c hc' hl
theorem FOk.beg {l : List MMon} (hm : monsB l = true) : FOk l 0 (begOf l) := by
  refine ⟨SOk.beg hm, fun c hc => (by cases hc), fun i hi => ?_⟩
  have hb := monB_bounds (mon_at hm hi).2
  rw [beg_per]
  exact ⟨by show (0 : Int) ≤ 0 ∧ (0 : Int) ≤ _; omega, by show (0 : Int) ≤ 0 ∧ (0 : Int) ≤ _; omega, by show (0 : Int) ≠ _; omega, Int.le_refl _⟩
end Go.Proofs.YtonpemikodajdaaDoor
