/- Cases as plain data, and what they read as in memory; when a case is valid. -/
import Derived.Test.YtonpemikodajdaaDoorOwn
import Derived.Test.YtonpemikodajdaaDoorGd1
namespace Go.Proofs.YtonpemikodajdaaDoor
open Go.RowKit

theorem SlA.more {w : World} {B B' size n : Nat} {A : Option Addr} {f : Nat → Nat → Value} (h : SlA w B size A n f) (hB : B ≤ B') : SlA w B' size A n f := fun hn => by
  obtain ⟨b, off, hA, hlt, hc⟩ := h hn
  exact ⟨b, off, hA, by omega, hc⟩
def probeCell (l : List MProbe) (pv : Nat → Option Addr × Nat) (i j : Nat) : Value :=
  if j = 0 then .int .i64 (l.getD i ⟨0, []⟩).cost else .slice (pv i).1 (l.getD i ⟨0, []⟩).outs.length (pv i).2
def ProbesA (w : World) (B : Nat) (A : Option Addr) (l : List MProbe) : Prop :=
  ∃ pv : Nat → Option Addr × Nat, SlA w B 2 A l.length (probeCell l pv) ∧ ∀ i, i < l.length → (l.getD i ⟨0, []⟩).outs.length ≤ (pv i).2 ∧ IntsA w B (pv i).1 (l.getD i ⟨0, []⟩).outs
theorem ProbesA.at_ {w : World} {B : Nat} {A : Option Addr} {l : List MProbe} (h : ProbesA w B A l) {k : Nat} (hk : k < l.length) :
    ∃ f b off Ap cp, l[k]? = some f ∧ A = some ⟨b, off, none⟩ ∧ b < B ∧ w.cell? ⟨b, off + k * 2, none⟩ = some (.int .i64 f.cost) ∧
      w.cell? ⟨b, off + k * 2 + 1, none⟩ = some (.slice Ap f.outs.length cp) ∧ f.outs.length ≤ cp ∧ IntsA w B Ap f.outs := by
  obtain ⟨pv, h, hp⟩ := h
  obtain ⟨b, off, hA, hlt, hc⟩ := h (by omega)
  refine ⟨l[k], b, off, (pv k).1, (pv k).2, List.getElem?_eq_getElem hk, hA, hlt, ?_, ?_, ?_⟩
  · have := hc k 0 hk (by omega)
    simpa [probeCell, hk] using this
  · have := hc k 1 hk (by omega)
    simpa [probeCell, hk] using this
  · have := hp k hk
    simpa [hk] using this
theorem ProbesA.below {w w' : World} {B B' : Nat} {A : Option Addr} {l : List MProbe} (h : ProbesA w B A l) (hb : Below B' w w') (hB : B ≤ B') : ProbesA w' B' A l := by
  obtain ⟨pv, h, hp⟩ := h
  exact ⟨pv, h.below hb hB, fun i hi => ⟨(hp i hi).1, (hp i hi).2.below hb hB⟩⟩
theorem ProbesA.more {w : World} {B B' : Nat} {A : Option Addr} {l : List MProbe} (h : ProbesA w B A l) (hB : B ≤ B') : ProbesA w B' A l := by
  obtain ⟨pv, h, hp⟩ := h
  exact ⟨pv, h.more hB, fun i hi => ⟨(hp i hi).1, (hp i hi).2.more hB⟩⟩
/-- a case as a value's two slices -/
structure CaseA (w : World) (B : Nat) (A1 A2 : Option Addr) (c : MCase) : Prop where
  ws : IntsA w B A1 c.weights
  ln : c.tests.length ≤ maxLen
  ts : ProbesA w B A2 c.tests
theorem CaseA.below {w w' : World} {B B' : Nat} {A1 A2 : Option Addr} {c : MCase} (h : CaseA w B A1 A2 c) (hb : Below B' w w') (hB : B ≤ B') : CaseA w' B' A1 A2 c := ⟨h.ws.below hb hB, h.ln, h.ts.below hb hB⟩
theorem CaseA.more {w : World} {B B' : Nat} {A1 A2 : Option Addr} {c : MCase} (h : CaseA w B A1 A2 c) (hB : B ≤ B') : CaseA w B' A1 A2 c := ⟨h.ws.more hB, h.ln, h.ts.more hB⟩
theorem CaseA.keep {w w' : World} {B : Nat} {A1 A2 : Option Addr} {c : MCase} (h : CaseA w B A1 A2 c) (hb : Below B w w') : CaseA w' B A1 A2 c := h.below hb (Nat.le_refl _)
theorem IntsA.keep {w w' : World} {B : Nat} {A : Option Addr} {l : List Int} (h : IntsA w B A l) (hb : Below B w w') : IntsA w' B A l := h.below hb (Nat.le_refl _)

def inB (n lo hi : Int) : Bool := decide (lo ≤ n) && decide (n ≤ hi)
theorem inB_iff' {n lo hi : Int} : inB n lo hi = true ↔ lo ≤ n ∧ n ≤ hi := by simp [inB]
theorem upto_snoc {α : Type} {l : List α} {p : α → Bool} {k : Nat} {g : α} (hi : ∀ j x, j < k → l[j]? = some x → p x = true) (hg : l[k]? = some g) (hp : p g = true) : ∀ j x, j < k + 1 → l[j]? = some x → p x = true := fun j x hj hx => by
  rcases Nat.lt_or_ge j k with h | h
  · exact hi j x h hx
  · have : j = k := by omega
    subst this
    rw [hg] at hx
    injection hx with hx
    subst hx
    exact hp
theorem nat_snoc {p : Nat → Prop} {k : Nat} (hi : ∀ j, j < k → p j) (hp : p k) : ∀ j, j < k + 1 → p j := fun j hj => by
  rcases Nat.lt_or_ge j k with h | h
  · exact hi j h
  · have : j = k := by omega
    subst this
    exact hp
theorem all_yes {α : Type} {l : List α} {p : α → Bool} (h : ∀ j g, j < l.length → l[j]? = some g → p g = true) : l.all p = true := by
  rw [List.all_eq_true]
  intro x hx
  obtain ⟨j, hj, rfl⟩ := List.mem_iff_getElem.1 hx
  exact h j _ hj (List.getElem?_eq_getElem hj)
theorem all_no {α : Type} {l : List α} {p : α → Bool} {k : Nat} {g : α} (h : l[k]? = some g) (hp : p g = false) : l.all p = false := by
  rw [List.all_eq_false]
  exact ⟨g, List.mem_of_getElem? h, by simp [hp]⟩
def b1000 (x : Int) : Bool := inB x 0 1000
def b3 (x : Int) : Bool := inB x 0 3
def bMil (x : Int) : Bool := inB x (-1000000) 1000000
def probeB (n : Nat) (t : MProbe) : Bool := b1000 t.cost && (decide (t.outs.length = n) && t.outs.all b3)
def caseB (c : MCase) : Bool := inB c.weights.length 1 12 && (decide (c.tests.length ≤ 12) && (c.weights.all b1000 && c.tests.all (probeB c.weights.length)))
structure CaseOk (c : MCase) : Prop where
  n1 : 1 ≤ c.weights.length
  n2 : c.weights.length ≤ 12
  t : c.tests.length ≤ 12
  w : ∀ k, k < c.weights.length → 0 ≤ c.weights.getD k 0 ∧ c.weights.getD k 0 ≤ 1000
  p : ∀ (k : Nat) (t : MProbe), c.tests[k]? = some t → (0 ≤ t.cost ∧ t.cost ≤ 1000) ∧ t.outs.length = c.weights.length ∧ ∀ i, i < t.outs.length → 0 ≤ t.outs.getD i 0 ∧ t.outs.getD i 0 ≤ 3
theorem all_at {l : List Int} {p : Int → Bool} (h : l.all p = true) {k : Nat} (hk : k < l.length) : p (l.getD k 0) = true := by
  rw [List.all_eq_true] at h
  rw [List.getD_eq_getElem?_getD, List.getElem?_eq_getElem hk]
  exact h _ (List.getElem_mem _)
theorem caseOk {c : MCase} (h : caseB c = true) : CaseOk c := by
  unfold caseB at h
  simp only [Bool.and_eq_true, decide_eq_true_eq, inB_iff'] at h
  obtain ⟨⟨h1, h2⟩, h3, h4, h5⟩ := h
  refine ⟨by omega, by omega, h3, fun k hk => inB_iff'.1 (all_at h4 hk), fun k t ht => ?_⟩
  rw [List.all_eq_true] at h5
  have h6 := h5 t (List.mem_of_getElem? ht)
  unfold probeB at h6
  simp only [Bool.and_eq_true, decide_eq_true_eq] at h6
  exact ⟨inB_iff'.1 h6.1, h6.2.1, fun i hi => inB_iff'.1 (all_at h6.2.2 hi)⟩
end Go.Proofs.YtonpemikodajdaaDoor
