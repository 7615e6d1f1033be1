/- What code and calm do, as steps of a tick; the example's three ticks. -/
import Derived.Test.YtonpemikodajdaaDoorWt8
import Derived.Test.YtonpemikodajdaaDoorWt13
namespace Go.Proofs.YtonpemikodajdaaDoor
open Go.RowKit

section
variable {B wb : Nat} {A : Option Addr} {lc : Nat} {l : List MMon} {tick : Int} {cb kb : Nat} {R : Option Addr} {rc : Nat} {row : List Int} {i : Nat} {s : WSt}
theorem codeC_none (hl : l.length ≤ 20) {m : MMon} (hm : l[i]? = some m) (hi : i < l.length) (hks : s.ks.length ≤ 1000000) (hasc : AscC s.ks) (ix : Nat) (has : Bool) (hf : FindP s.ks i ix has) (h1 : s.ns.getD i 0 ≠ m.limit) (h2 : s.ns.getD i 0 ≠ 0 ∨ has = false) :
    CodeC B wb A lc l tick cb kb R rc row i s s := fun w hT _ => by
  obtain ⟨e1, e2, V, K, e3, hS⟩ := hT
  have hBw : B ≤ w.heap.size := by have := hS.bw; have := hS.lt; omega
  refine (code_none hS hl (by rw [← List.length_map (f := Prod.fst), e3]; exact hks) (by rw [e3]; exact hasc) i hi m hm R rc row ix has (by rw [e3]; exact hf) _ rfl h1 h2).mono ?_
  rintro e w' ⟨h3, h4, h5⟩
  exact ⟨h3, ⟨e1, e2, V, K, e3, h4⟩, h5.mono hBw⟩
theorem codeC_new (hl : l.length ≤ 20) {m : MMon} (hm : l[i]? = some m) (hi : i < l.length) (hks : s.ks.length ≤ 1000000) (hasc : AscC s.ks) (hrl : row.length ≤ 1000) (hf : FindP s.ks i s.ks.length false) (hn : s.ns.getD i 0 = m.limit) :
    CodeC B wb A lc l tick cb kb R rc row i s { s with ks := s.ks ++ [⟨i, tick, tick, 1, row, true⟩] } := fun w hT hrow => by
  obtain ⟨e1, e2, V, K, e3, hS⟩ := hT
  have hlen : K.length = s.ks.length := by rw [← e3, List.length_map]
  refine (code_new hS hl (by rw [hlen]; exact hks) (by rw [e3]; exact hasc) i hi m hm R rc row hrow hrl (by rw [e3, hlen]; exact hf) hn).mono ?_
  rintro e w' ⟨h3, ⟨V', v, h4⟩, h5⟩
  exact ⟨h3, ⟨e1, e2, V', _, by rw [List.map_append, e3]; rfl, h4⟩, h5⟩
theorem calmC_zero (hl : l.length ≤ 20) (hi : i < l.length) (hks : s.ks.length ≤ 1000000) (hasc : AscC s.ks) (ix : Nat) (has : Bool) (hf : FindP s.ks i ix has) (ha : has = false ∨ (s.ks.getD ix dCode).active = true) :
    CalmC B wb A lc l tick cb kb i s { s with cs := s.cs.set i 0 } := fun w hT => by
  obtain ⟨e1, e2, V, K, e3, hS⟩ := hT
  refine (calm_zero hS hl e2 (by rw [← List.length_map (f := Prod.fst), e3]; exact hks) (by rw [e3]; exact hasc) i hi ix has (by rw [e3]; exact hf) (by rw [e3]; exact ha)).mono ?_
  rintro e w' ⟨h3, h4, h5⟩
  exact ⟨h3, ⟨e1, by simpa using e2, V, K, e3, h4⟩, h5⟩
end
def mEx : MMon := ⟨0, 0, 10, 2, 1, 4, 3⟩
def rsEx : List (List Int) := [[11], [11], [5]]
def cEx : MCode := ⟨0, 1, 1, 1, [11], true⟩
def sEx : Nat → WSt
  | 0 => ⟨[0], [0], []⟩
  | 1 => ⟨[2], [0], []⟩
  | 2 => ⟨[4], [0], [cEx]⟩
  | _ => ⟨[3], [0], [cEx]⟩
theorem asc_nil : AscC [] := ⟨fun _ _ _ hj => (by cases hj), fun _ hi => (by cases hi)⟩
theorem asc_one : AscC [cEx] := by
  refine ⟨fun i j h hj => ?_, fun i hi => ?_⟩
  · simp at hj; omega
  · have : i = 0 := by simpa using hi
    subst this
    exact ⟨by decide, by decide⟩
theorem find_nil : FindP [] ((0 : Nat) : Int) 0 false := ⟨Nat.le_refl _, fun k hk => (by omega), fun _ _ hk => (by cases hk), ⟨fun h => (by cases h), fun h => (by cases h.1)⟩⟩
theorem find_one : FindP [cEx] ((0 : Nat) : Int) 0 true := by
  refine ⟨Nat.zero_le _, fun k hk => ?_, fun k _ hk => ?_, ⟨fun _ => ⟨by decide, rfl⟩, fun _ => rfl⟩⟩
  · omega
  · have : k = 0 := by simpa using hk
    subst this
    exact Int.le_refl _
theorem tick_one {t : Int} {row : List Int} {s sm s' : WSt} (hlaw : lawB [mEx] row = true) (ht : 0 ≤ t ∧ t ≤ 1000000) (hn : 0 ≤ s.ns.getD 0 0 ∧ s.ns.getD 0 0 ≤ 1000)
    (hcode : ∀ B wb A lc cb kb R rc, CodeC B wb A lc [mEx] t cb kb R rc row 0 { s with ns := s.ns.set 0 (cntS mEx (row.getD 0 0) (s.ns.getD 0 0)) } sm)
    (hcalm : ∀ B wb A lc cb kb, CalmC B wb A lc [mEx] t cb kb 0 sm s') : TickC [mEx] t row s s' := fun w B wb A lc cb kb R rc hT hrow => by
  refine tick_any R rc row (fun k => if k = 0 then s else s') (fun _ => sm) hT (by decide +kernel) hrow hlaw ht (fun i hi => ?_) (fun i m hm => ?_) (fun i hi => ?_)
  · have : i = 0 := by simpa using hi
    subst this
    exact hn
  · have hi : i < 1 := (List.getElem?_eq_some_iff.1 hm).1
    have : i = 0 := by omega
    subst this
    injection hm with hm
    subst hm
    exact hcode B wb A lc cb kb R rc
  · have : i = 0 := by simpa using hi
    subst this
    exact hcalm B wb A lc cb kb
theorem ticks_ex : ∀ (k : Nat) (row : List Int), rsEx[k]? = some row → TickC [mEx] k row (sEx k) (sEx (k + 1)) := fun k row hk => by
  rcases k with _ | _ | _ | k
  · injection hk with hk
    subst hk
    refine tick_one (by decide +kernel) (by decide) (by decide) (sm := ⟨[2], [0], []⟩) (fun B wb A lc cb kb R rc => ?_) (fun B wb A lc cb kb => ?_)
    · exact codeC_none (s := ⟨[2], [0], []⟩) (by decide) (m := mEx) rfl (by decide) (by decide) asc_nil 0 false find_nil (by decide) (.inr rfl)
    · exact calmC_zero (s := ⟨[2], [0], []⟩) (by decide) (by decide) (by decide) asc_nil 0 false find_nil (.inl rfl)
  · injection hk with hk
    subst hk
    refine tick_one (by decide +kernel) (by decide) (by decide) (sm := ⟨[4], [0], [cEx]⟩) (fun B wb A lc cb kb R rc => ?_) (fun B wb A lc cb kb => ?_)
    · exact codeC_new (s := ⟨[4], [0], []⟩) (by decide) (m := mEx) rfl (by decide) (by decide) asc_nil (by decide) find_nil (by decide)
    · exact calmC_zero (s := ⟨[4], [0], [cEx]⟩) (by decide) (by decide) (by decide) asc_one 0 true find_one (.inr rfl)
  · injection hk with hk
    subst hk
    refine tick_one (by decide +kernel) (by decide) (by decide) (sm := ⟨[3], [0], [cEx]⟩) (fun B wb A lc cb kb R rc => ?_) (fun B wb A lc cb kb => ?_)
    · exact codeC_none (s := ⟨[3], [0], [cEx]⟩) (by decide) (m := mEx) rfl (by decide) (by decide) asc_one 0 true find_one (by decide) (.inl (by decide))
    · exact calmC_zero (s := ⟨[3], [0], [cEx]⟩) (by decide) (by decide) (by decide) asc_one 0 true find_one (.inr rfl)
  · simp [rsEx] at hk
theorem ex_watchE : watchE [mEx] rsEx = 0 := by decide +kernel
end Go.Proofs.YtonpemikodajdaaDoor
