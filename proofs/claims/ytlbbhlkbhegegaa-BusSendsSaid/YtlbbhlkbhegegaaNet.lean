/- Nets as plain data, what they read as in memory, and when one is valid. -/
import Derived.Test.YtlbbhlkbhegegaaMem
namespace Go.Proofs.Ytlbbhlkbhegegaa
open Go.RowKit

structure MGate where
  rate : Int
  delay : Int
structure MFlow where
  burst : Int
  rate : Int
  path : List Int
structure MNet where
  gates : List MGate
  flows : List MFlow

def gateCell (l : List MGate) (i j : Nat) : Value := if j = 0 then .int .i64 (l.getD i ⟨0, 0⟩).rate else .int .i64 (l.getD i ⟨0, 0⟩).delay
def flowCell (l : List MFlow) (pv : Nat → Option Addr × Nat) (i j : Nat) : Value :=
  if j = 0 then .int .i64 (l.getD i ⟨0, 0, []⟩).burst else if j = 1 then .int .i64 (l.getD i ⟨0, 0, []⟩).rate else .slice (pv i).1 (l.getD i ⟨0, 0, []⟩).path.length (pv i).2
def GatesA (w : World) (B : Nat) (A : Option Addr) (l : List MGate) : Prop := SlA w B 2 A l.length (gateCell l)
def FlowsA (w : World) (B : Nat) (A : Option Addr) (l : List MFlow) : Prop :=
  ∃ pv : Nat → Option Addr × Nat, SlA w B 3 A l.length (flowCell l pv) ∧ ∀ i, i < l.length → (l.getD i ⟨0, 0, []⟩).path.length ≤ (pv i).2 ∧ IntsA w B (pv i).1 (l.getD i ⟨0, 0, []⟩).path

theorem GatesA.at_ {w : World} {B : Nat} {A : Option Addr} {l : List MGate} (h : GatesA w B A l) {k : Nat} (hk : k < l.length) :
    ∃ g b off, l[k]? = some g ∧ A = some ⟨b, off, none⟩ ∧ b < B ∧ w.cell? ⟨b, off + k * 2, none⟩ = some (.int .i64 g.rate) ∧ w.cell? ⟨b, off + k * 2 + 1, none⟩ = some (.int .i64 g.delay) := by
  obtain ⟨b, off, hA, hlt, hc⟩ := h (by omega)
  refine ⟨l[k], b, off, List.getElem?_eq_getElem hk, hA, hlt, ?_, ?_⟩
  · have := hc k 0 hk (by omega)
    simpa [gateCell, hk] using this
  · have := hc k 1 hk (by omega)
    simpa [gateCell, hk] using this
theorem FlowsA.at_ {w : World} {B : Nat} {A : Option Addr} {l : List MFlow} (h : FlowsA w B A l) {k : Nat} (hk : k < l.length) :
    ∃ f b off Ap cp, l[k]? = some f ∧ A = some ⟨b, off, none⟩ ∧ b < B ∧ w.cell? ⟨b, off + k * 3, none⟩ = some (.int .i64 f.burst) ∧ w.cell? ⟨b, off + k * 3 + 1, none⟩ = some (.int .i64 f.rate) ∧
      w.cell? ⟨b, off + k * 3 + 2, none⟩ = some (.slice Ap f.path.length cp) ∧ f.path.length ≤ cp ∧ IntsA w B Ap f.path := by
  obtain ⟨pv, h, hp⟩ := h
  obtain ⟨b, off, hA, hlt, hc⟩ := h (by omega)
  refine ⟨l[k], b, off, (pv k).1, (pv k).2, List.getElem?_eq_getElem hk, hA, hlt, ?_, ?_, ?_, ?_⟩
  · have := hc k 0 hk (by omega)
    simpa [flowCell, hk] using this
  · have := hc k 1 hk (by omega)
    simpa [flowCell, hk] using this
  · have := hc k 2 hk (by omega)
    simpa [flowCell, hk] using this
  · have := hp k hk
    simpa [hk] using this
theorem GatesA.below {w w' : World} {B B' : Nat} {A : Option Addr} {l : List MGate} (h : GatesA w B A l) (hb : Below B' w w') (hB : B ≤ B') : GatesA w' B' A l := SlA.below h hb hB
theorem FlowsA.below {w w' : World} {B B' : Nat} {A : Option Addr} {l : List MFlow} (h : FlowsA w B A l) (hb : Below B' w w') (hB : B ≤ B') : FlowsA w' B' A l := by
  obtain ⟨pv, h, hp⟩ := h
  exact ⟨pv, h.below hb hB, fun i hi => ⟨(hp i hi).1, (hp i hi).2.below hb hB⟩⟩

/-- a net as a value's two slices -/
def NetA (w : World) (B : Nat) (A1 A2 : Option Addr) (n : MNet) : Prop := n.gates.length ≤ maxLen ∧ n.flows.length ≤ maxLen ∧ GatesA w B A1 n.gates ∧ FlowsA w B A2 n.flows
theorem NetA.below {w w' : World} {B B' : Nat} {A1 A2 : Option Addr} {n : MNet} (h : NetA w B A1 A2 n) (hb : Below B' w w') (hB : B ≤ B') : NetA w' B' A1 A2 n :=
  ⟨h.1, h.2.1, h.2.2.1.below hb hB, h.2.2.2.below hb hB⟩

theorem SlA.more {w : World} {B B' size n : Nat} {A : Option Addr} {f : Nat → Nat → Value} (h : SlA w B size A n f) (hB : B ≤ B') : SlA w B' size A n f := fun hn => by
  obtain ⟨b, off, hA, hlt, hc⟩ := h hn
  exact ⟨b, off, hA, by omega, hc⟩
theorem NetA.more {w : World} {B B' : Nat} {A1 A2 : Option Addr} {n : MNet} (h : NetA w B A1 A2 n) (hB : B ≤ B') : NetA w B' A1 A2 n := by
  obtain ⟨h1, h2, h3, pv, h4, h5⟩ := h
  exact ⟨h1, h2, SlA.more h3 hB, pv, h4.more hB, fun i hi => ⟨(h5 i hi).1, (h5 i hi).2.more hB⟩⟩
/-- a net in a box of its own, bx, in the world wr; w0 is the world ahead of the box -/
structure NetEnv (w0 : World) (bx : Nat) (A1 : Option Addr) (c1 : Nat) (A2 : Option Addr) (c2 : Nat) (n : MNet) (wr : World) : Prop where
  hbx : bx = w0.heap.size
  old : Below bx w0 wr
  size : bx < wr.heap.size
  c0 : wr.cell? ⟨bx, 0, none⟩ = some (.slice A1 n.gates.length c1)
  c1 : wr.cell? ⟨bx, 1, none⟩ = some (.slice A2 n.flows.length c2)
  net : NetA wr bx A1 A2 n
theorem NetEnv.make {w : World} {A1 A2 : Option Addr} {c1 c2 t : Nat} {n : MNet} (h : NetA w w.heap.size A1 A2 n) :
    NetEnv w w.heap.size A1 c1 A2 c2 n (w.alloc (.cells #[.slice A1 n.gates.length c1, .slice A2 n.flows.length c2] t)) :=
  ⟨rfl, (Below.refl _ _).alloc (Nat.le_refl _) _, by simp, newcell _ _ _ _, newcell _ _ _ _, h.below ((Below.refl _ _).alloc (Nat.le_refl _) _) (Nat.le_refl _)⟩
theorem NetEnv.below {w0 wr wr' : World} {A1 A2 : Option Addr} {bx c1 c2 : Nat} {n : MNet} (h : NetEnv w0 bx A1 c1 A2 c2 n wr) {B : Nat} (hb : Below B wr wr') (hB : bx < B) : NetEnv w0 bx A1 c1 A2 c2 n wr' :=
  ⟨h.hbx, h.old.trans (hb.mono (by omega)), Nat.lt_of_lt_of_le h.size hb.size, (bcell hb _ _ hB).trans h.c0, (bcell hb _ _ hB).trans h.c1, h.net.below (hb.mono (B' := bx) (by omega)) (Nat.le_refl _)⟩

theorem NetEnv.drewN {w0 wr : World} {A1 A2 : Option Addr} {bx c1 c2 : Nat} {n : MNet} (h : NetEnv w0 bx A1 c1 A2 c2 n wr) (k : Nat) : NetEnv w0 bx A1 c1 A2 c2 n (wr.drewN k) :=
  ⟨h.hbx, ⟨h.old.os, h.old.tape, h.old.output, h.old.size, h.old.block⟩, h.size, h.c0, h.c1, h.net⟩
/-! ### when a net is valid -/
def inB (n lo hi : Int) : Bool := decide (lo ≤ n) && decide (n ≤ hi)
def flowB (burst rate : Int) : Bool := inB burst 1 100000 && inB rate 0 10000
def gateB (g : MGate) : Bool := inB g.rate 1 10000 && inB g.delay 1 1000
def hopB (G : Nat) (p : List Int) (i : Nat) : Bool := inB (p.getD i 0) 0 ((G : Int) - 1) && !hasI (p.take i) (p.getD i 0)
def pathB (G : Nat) (p : List Int) : Bool := (List.range p.length).all (hopB G p)
def flowOkB (G : Nat) (f : MFlow) : Bool := flowB f.burst f.rate && inB (f.path.length : Int) 1 8 && pathB G f.path
def netB (n : MNet) : Bool := decide (n.gates.length ≤ 30) && decide (n.flows.length ≤ 40) && n.gates.all gateB && n.flows.all (flowOkB n.gates.length)

theorem all_yes {α : Type} {l : List α} {p : α → Bool} (h : ∀ j g, j < l.length → l[j]? = some g → p g = true) : l.all p = true := by
  rw [List.all_eq_true]
  intro x hx
  obtain ⟨j, hj, rfl⟩ := List.mem_iff_getElem.1 hx
  exact h j _ hj (List.getElem?_eq_getElem hj)
theorem all_no {α : Type} {l : List α} {p : α → Bool} {k : Nat} {g : α} (h : l[k]? = some g) (hp : p g = false) : l.all p = false := by
  rw [List.all_eq_false]
  exact ⟨g, List.mem_of_getElem? h, by simp [hp]⟩
theorem range_yes {n : Nat} {p : Nat → Bool} (h : ∀ j, j < n → p j = true) : (List.range n).all p = true := by
  rw [List.all_eq_true]
  intro x hx
  exact h x (List.mem_range.1 hx)
theorem range_no {n k : Nat} {p : Nat → Bool} (hk : k < n) (h : p k = false) : (List.range n).all p = false := by
  rw [List.all_eq_false]
  exact ⟨k, List.mem_range.2 hk, by simp [h]⟩
theorem upto_snoc {α : Type} {l : List α} {p : α → Bool} {k : Nat} {g : α} (hi : ∀ j x, j < k → l[j]? = some x → p x = true) (hg : l[k]? = some g) (hp : p g = true) : ∀ j x, j < k + 1 → l[j]? = some x → p x = true := fun j x hj hx => by
  rcases Nat.lt_or_ge j k with h | h
  · exact hi j x h hx
  · have : j = k := by omega
    subst this
    rw [hg] at hx
    injection hx with hx
    subst hx
    exact hp
theorem nat_snoc {p : Nat → Prop} {k : Nat} (hi : ∀ j, j < k → p j) (hp : p k) : ∀ j, j < k + 1 → p j := fun j hj => by
  rcases Nat.lt_or_ge j k with h | h
  · exact hi j h
  · have : j = k := by omega
    subst this
    exact hp
theorem netB_no1 {n : MNet} (h : 30 < n.gates.length ∨ 40 < n.flows.length) : netB n = false := by
  unfold netB
  rcases h with h | h
  · rw [decide_eq_false (by omega)]; rfl
  · rw [decide_eq_false (p := n.flows.length ≤ 40) (by omega)]; simp
theorem netB_no2 {n : MNet} (h : n.gates.all gateB = false) : netB n = false := by unfold netB; rw [h]; simp
theorem netB_no3 {n : MNet} (h : n.flows.all (flowOkB n.gates.length) = false) : netB n = false := by unfold netB; rw [h]; simp
theorem netB_yes {n : MNet} (h1 : n.gates.length ≤ 30) (h2 : n.flows.length ≤ 40) (h3 : n.gates.all gateB = true) (h4 : n.flows.all (flowOkB n.gates.length) = true) : netB n = true := by
  unfold netB; rw [h3, h4, decide_eq_true h1, decide_eq_true h2]; rfl
end Go.Proofs.Ytlbbhlkbhegegaa
