/- Plain: packets; stable sorting: what keeps each flow's own order. -/
import Derived.Test.YtlbbhlkbhegegaaTk
namespace Go.Proofs.Ytlbbhlkbhegegaa
open Go.RowKit

/-- some bytes on their way: flow, step of its path, when they came, how many -/
structure MPkt where
  flow : Int
  hop : Int
  born : Int
  many : Int
def dPkt : MPkt := ⟨0, 0, 0, 0⟩
/-- the packets of a flow, in their order -/
def ofF (f : Int) (l : List MPkt) : List MPkt := l.filter fun x => x.flow == f
/-- each flow's packets stand in the same order -/
def StQ (l l' : List MPkt) : Prop := ∀ f, ofF f l' = ofF f l
def LeF (a b : MPkt) : Prop := a.flow ≤ b.flow
theorem ofF_app (f : Int) (a b : List MPkt) : ofF f (a ++ b) = ofF f a ++ ofF f b := List.filter_append _ _
theorem ofF_cons (f : Int) (x : MPkt) (l : List MPkt) : ofF f (x :: l) = (if x.flow = f then [x] else []) ++ ofF f l := by
  unfold ofF
  rw [List.filter_cons]
  by_cases h : x.flow = f
  · rw [if_pos h, if_pos (by simpa using h)]; rfl
  · rw [if_neg h, if_neg (by simpa using h)]; rfl
theorem ofF_nil_of {f : Int} {l : List MPkt} (h : ∀ x ∈ l, x.flow ≠ f) : ofF f l = [] := by
  unfold ofF
  rw [List.filter_eq_nil_iff]
  intro x hx
  simpa using h x hx
theorem StQ.refl (l : List MPkt) : StQ l l := fun _ => rfl
theorem StQ.trans {a b c : List MPkt} (h : StQ a b) (k : StQ b c) : StQ a c := fun f => (k f).trans (h f)
theorem StQ.symm {a b : List MPkt} (h : StQ a b) : StQ b a := fun f => (h f).symm
theorem StQ.app {a b c d : List MPkt} (h : StQ a b) (k : StQ c d) : StQ (a ++ c) (b ++ d) := fun f => by rw [ofF_app, ofF_app, h f, k f]
/-- lists of which no flow stands in both change places -/
theorem StQ.swap {U V : List MPkt} (h : ∀ u ∈ U, ∀ v ∈ V, u.flow ≠ v.flow) : StQ (U ++ V) (V ++ U) := fun f => by
  rw [ofF_app, ofF_app]
  by_cases hu : ∃ u ∈ U, u.flow = f
  · obtain ⟨u, hu, rfl⟩ := hu
    rw [ofF_nil_of (l := V) fun v hv e => h u hu v hv e.symm]
    simp
  · rw [ofF_nil_of (l := U) fun u hu' e => hu ⟨u, hu', e⟩]
    simp
theorem StQ.mem {l l' : List MPkt} (h : StQ l l') {x : MPkt} : x ∈ l' ↔ x ∈ l := by
  have h1 := h x.flow
  have e : ∀ k : List MPkt, x ∈ k ↔ x ∈ ofF x.flow k := fun k => by unfold ofF; simp
  rw [e l', e l, h1]
theorem StQ.perm {l l' : List MPkt} (h : StQ l l') : l'.Perm l := by
  induction l generalizing l' with
  | nil =>
    rcases l' with _ | ⟨x, l'⟩
    · exact .refl _
    · exact absurd ((StQ.mem h (x := x)).1 (List.mem_cons_self ..)) (by simp)
  | cons x l ih =>
    have hx : x ∈ l' := h.mem.2 (by simp)
    -- the first packet of x's flow in l' is x
    obtain ⟨A, B, hl, hA⟩ : ∃ A B, l' = A ++ x :: B ∧ ∀ a ∈ A, a.flow ≠ x.flow := by
      have h1 := h x.flow
      rw [ofF_cons, if_pos rfl] at h1
      clear ih h hx
      induction l' with
      | nil => cases h1
      | cons y l' ih2 =>
        rw [ofF_cons] at h1
        by_cases e : y.flow = x.flow
        · rw [if_pos e] at h1
          injection h1 with h1 _
          subst h1
          exact ⟨[], l', rfl, fun a ha => by cases ha⟩
        · rw [if_neg e] at h1
          obtain ⟨A, B, hl, hA⟩ := ih2 h1
          refine ⟨y :: A, B, by rw [hl]; rfl, fun a ha => ?_⟩
          rcases List.mem_cons.1 ha with rfl | ha
          · exact e
          · exact hA a ha
    subst hl
    have h2 : StQ l (A ++ B) := fun f => by
      have h1 := h f
      rw [ofF_app, ofF_cons, ofF_cons] at h1
      rw [ofF_app]
      by_cases e : x.flow = f
      · rw [if_pos e, ofF_nil_of (l := A) fun a ha => e ▸ hA a ha] at h1
        rw [ofF_nil_of (l := A) fun a ha => e ▸ hA a ha]
        injection h1
      · rw [if_neg e] at h1
        exact h1
    exact (List.perm_middle).trans ((ih h2).cons x)
theorem StQ.len {l l' : List MPkt} (h : StQ l l') : l'.length = l.length := h.perm.length_eq
/-! ### rotation, by exchanges of ranges -/
/-- two ranges of the same length change places -/
def SwR (L : List MPkt) (a b n : Nat) (L' : List MPkt) : Prop := ∀ X P M Q Y, L = X ++ P ++ M ++ Q ++ Y → X.length = a → P.length = n → Q.length = n → b = a + n + M.length → L' = X ++ Q ++ M ++ P ++ Y
/-! ### symmerge -/
def SrtF (l : List MPkt) : Prop := l.Pairwise LeF
theorem srt_app {a b : List MPkt} : SrtF (a ++ b) ↔ SrtF a ∧ SrtF b ∧ ∀ x ∈ a, ∀ y ∈ b, LeF x y := List.pairwise_append
theorem srt_nil : SrtF [] := List.Pairwise.nil
theorem LeF.trans {a b c : MPkt} (h : LeF a b) (k : LeF b c) : LeF a c := Int.le_trans h k
/-- what a merge makes -/
def Mrg (A B S : List MPkt) : Prop := SrtF S ∧ StQ (A ++ B) S
theorem Mrg.mem {A B S : List MPkt} (h : Mrg A B S) {x : MPkt} : x ∈ S ↔ x ∈ A ∨ x ∈ B := by rw [h.2.mem, List.mem_append]
/-- the step: cut, turned, both halves merged -/
theorem mrg_step {A1 A2 B1 B2 S1 S2 : List MPkt} (hA : SrtF (A1 ++ A2)) (hB : SrtF (B1 ++ B2)) (h1 : ∀ x ∈ A2, ∀ y ∈ B1, y.flow < x.flow) (h2 : ∀ x ∈ A1, ∀ y ∈ B2, LeF x y) (m1 : Mrg A1 B1 S1) (m2 : Mrg A2 B2 S2) : Mrg (A1 ++ A2) (B1 ++ B2) (S1 ++ S2) := by
  rw [srt_app] at hA hB
  refine ⟨srt_app.2 ⟨m1.1, m2.1, fun x hx y hy => ?_⟩, ?_⟩
  · rcases m1.mem.1 hx with hx | hx
    · rcases m2.mem.1 hy with hy | hy
      · exact hA.2.2 x hx y hy
      · exact h2 x hx y hy
    · rcases m2.mem.1 hy with hy | hy
      · exact Int.le_of_lt (h1 y hy x hx)
      · exact hB.2.2 x hx y hy
  · refine StQ.trans ?_ (m1.2.app m2.2)
    have h3 : StQ (A2 ++ B1) (B1 ++ A2) := StQ.swap fun u hu v hv e => by have := h1 u hu v hv; omega
    have h4 := ((StQ.refl A1).app h3).app (StQ.refl B2)
    simpa [List.append_assoc] using h4
/-- one before the rest -/
theorem mrg_one {x : MPkt} {B1 B2 : List MPkt} (hB : SrtF (B1 ++ B2)) (h1 : ∀ y ∈ B1, y.flow < x.flow) (h2 : ∀ y ∈ B2, LeF x y) : Mrg [x] (B1 ++ B2) (B1 ++ x :: B2) := by
  rw [srt_app] at hB
  refine ⟨srt_app.2 ⟨hB.1, List.pairwise_cons.2 ⟨h2, hB.2.1⟩, fun y hy z hz => ?_⟩, ?_⟩
  · rcases List.mem_cons.1 hz with rfl | hz
    · exact Int.le_of_lt (h1 y hy)
    · exact hB.2.2 y hy z hz
  · have h3 : StQ ([x] ++ B1) (B1 ++ [x]) := StQ.swap fun u hu v hv e => by
      obtain rfl := List.mem_singleton.1 hu
      have := h1 v hv
      omega
    have h4 := h3.app (StQ.refl B2)
    simpa [List.append_assoc] using h4
/-- one behind the rest -/
theorem mrg_last {x : MPkt} {A1 A2 : List MPkt} (hA : SrtF (A1 ++ A2)) (h1 : ∀ y ∈ A1, LeF y x) (h2 : ∀ y ∈ A2, x.flow < y.flow) : Mrg (A1 ++ A2) [x] (A1 ++ x :: A2) := by
  rw [srt_app] at hA
  refine ⟨srt_app.2 ⟨hA.1, List.pairwise_cons.2 ⟨fun y hy => Int.le_of_lt (h2 y hy), hA.2.1⟩, fun y hy z hz => ?_⟩, ?_⟩
  · rcases List.mem_cons.1 hz with rfl | hz
    · exact h1 y hy
    · exact hA.2.2 y hy z hz
  · have h3 : StQ (A2 ++ [x]) ([x] ++ A2) := StQ.swap fun u hu v hv e => by
      obtain rfl := List.mem_singleton.1 hv
      have := h2 u hu
      omega
    have h4 := (StQ.refl A1).app h3
    simpa [List.append_assoc] using h4
end Go.Proofs.Ytlbbhlkbhegegaa
