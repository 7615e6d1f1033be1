/- Memory: the reference's net in motion. -/
import Derived.Test.YtlbbhlkbhegegaaYi
/- The reference's net in motion: plain, and in memory. -/
namespace Go.Proofs.Ytlbbhlkbhegegaa
open Go.RowKit

/-! ### what is on its way, in another order -/
def atF (f u : Int) (W : List (Int × MPkt)) : List (Int × MPkt) := W.filter fun p => p.1 == u && p.2.flow == f
/-- the same packets, each flow's of each tick in the same order -/
def SameW (V W : List (Int × MPkt)) : Prop := ∀ f u, atF f u V = atF f u W
theorem SameW.refl (W : List (Int × MPkt)) : SameW W W := fun _ _ => rfl
theorem atF_app (f u : Int) (a b : List (Int × MPkt)) : atF f u (a ++ b) = atF f u a ++ atF f u b := List.filter_append _ _
theorem SameW.app {V W E : List (Int × MPkt)} (h : SameW V W) : SameW (V ++ E) (W ++ E) := fun f u => by rw [atF_app, atF_app, h]
theorem mem_atF {f u : Int} {W : List (Int × MPkt)} {p : Int × MPkt} : p ∈ atF f u W ↔ p ∈ W ∧ p.1 = u ∧ p.2.flow = f := by
  unfold atF
  rw [List.mem_filter, Bool.and_eq_true, beq_iff_eq, beq_iff_eq]
theorem SameW.mem {V W : List (Int × MPkt)} (h : SameW V W) {p : Int × MPkt} : p ∈ V ↔ p ∈ W := by
  have h1 := h p.2.flow p.1
  constructor
  · intro hp
    have := mem_atF.2 ⟨hp, rfl, rfl⟩
    rw [h1] at this
    exact (mem_atF.1 this).1
  · intro hp
    have := mem_atF.2 ⟨hp, rfl, rfl⟩
    rw [← h1] at this
    exact (mem_atF.1 this).1
theorem ofF_atW (f u : Int) (W : List (Int × MPkt)) : ofF f (atW u W) = (atF f u W).map (·.2) := by
  induction W with
  | nil => rfl
  | cons p W ih =>
    unfold ofF atW atF at ih ⊢
    by_cases h1 : p.1 = u
    · rw [List.filter_cons_of_pos (by simpa using h1), List.map_cons]
      by_cases h2 : p.2.flow = f
      · rw [List.filter_cons_of_pos (by simpa using h2), List.filter_cons_of_pos (by simp [h1, h2]), List.map_cons, ih]
      · rw [List.filter_cons_of_neg (by simpa using h2), List.filter_cons_of_neg (by simp [h2]), ih]
    · rw [List.filter_cons_of_neg (by simpa using h1), List.filter_cons_of_neg (by simp [h1]), ih]
theorem SameW.stq {V W : List (Int × MPkt)} (h : SameW V W) (u : Int) : StQ (atW u W) (atW u V) := fun f => by rw [ofF_atW, ofF_atW, h]
/-- what stays of a flow -/
def lateF (t f : Int) (W : List (Int × MPkt)) : List (Int × MPkt) := W.filter fun p => decide (t < p.1) && p.2.flow == f
def lateK (t : Int) (k : Nat) (W : List (Int × MPkt)) : List (Int × MPkt) := (List.range k).flatMap fun (i : Nat) => lateF t (i : Int) W
theorem lateK_succ (t : Int) (k : Nat) (W : List (Int × MPkt)) : lateK t (k + 1) W = lateK t k W ++ lateF t (k : Int) W := by
  unfold lateK
  rw [List.range_succ, List.flatMap_append, List.flatMap_singleton]
theorem atF_late (t f g u : Int) (W : List (Int × MPkt)) : atF f u (lateF t g W) = if f = g ∧ t < u then atF f u W else [] := by
  unfold atF lateF
  rw [List.filter_filter]
  by_cases h : f = g ∧ t < u
  · rw [if_pos h]
    apply List.filter_congr
    intro p _
    by_cases h1 : p.1 = u
    · by_cases h2 : p.2.flow = f
      · simp [h1, h2, h.1, h.2]
      · simp [h2]
    · simp [h1]
  · rw [if_neg h]
    rw [List.filter_eq_nil_iff]
    intro p _ hp
    simp only [Bool.and_eq_true, beq_iff_eq, decide_eq_true_eq] at hp
    exact h ⟨by rw [← hp.1.2, hp.2.2], by rw [← hp.1.1]; exact hp.2.1⟩
theorem atF_lateK (t f u : Int) (W : List (Int × MPkt)) : ∀ k : Nat, atF f u (lateK t k W) = if (0 ≤ f ∧ f < k) ∧ t < u then atF f u W else []
  | 0 => by rw [if_neg (by omega)]; rfl
  | k + 1 => by
    rw [lateK_succ, atF_app, atF_lateK t f u W k, atF_late]
    by_cases h : (0 ≤ f ∧ f < k) ∧ t < u
    · rw [if_pos h, if_neg (by omega), if_pos (by omega), List.append_nil]
    · rw [if_neg h]
      by_cases h2 : f = k ∧ t < u
      · rw [if_pos h2, if_pos (by omega)]; rfl
      · rw [if_neg h2, if_neg (by omega)]; rfl
theorem atF_gone (t f u : Int) (W : List (Int × MPkt)) : atF f u (W.filter fun p => p.1 != t) = if u = t then [] else atF f u W := by
  unfold atF
  rw [List.filter_filter]
  by_cases h : u = t
  · rw [if_pos h, List.filter_eq_nil_iff]
    intro p _ hp
    simp only [Bool.and_eq_true, beq_iff_eq, bne_iff_ne] at hp
    exact hp.2 (by rw [hp.1.1, h])
  · rw [if_neg h]
    apply List.filter_congr
    intro p _
    by_cases h1 : p.1 = u
    · simp [h1, h]
    · simp [h1]
theorem atF_nil {f u : Int} {W : List (Int × MPkt)} (h : ∀ p ∈ W, ¬ (p.1 = u ∧ p.2.flow = f)) : atF f u W = [] := by
  unfold atF
  rw [List.filter_eq_nil_iff]
  intro p hp hb
  simp only [Bool.and_eq_true, beq_iff_eq] at hb
  exact h p hp hb
/-- what stays, as both have it -/
theorem same_late {n : MNet} {t : Int} {s : Mot} (hi : InvM n t s) {W : List (Int × MPkt)} (h : SameW W s.way) : SameW (lateK t n.flows.length W) (gone t s).way := fun f u => by
  show _ = atF f u (s.way.filter _)
  rw [atF_lateK, atF_gone, h]
  by_cases h1 : u = t
  · rw [if_pos h1, if_neg (by omega)]
  · rw [if_neg h1]
    by_cases h2 : (0 ≤ f ∧ f < n.flows.length) ∧ t < u
    · rw [if_pos h2]
    · rw [if_neg h2]
      symm
      refine atF_nil fun p hp he => ?_
      have h3 := hi.way p hp
      have h4 := h3.2.2.flow0
      have h5 := h3.2.2.flow1
      omega
theorem SameW.len {s : Mot} {W : List (Int × MPkt)} (h : SameW W s.way) : W = [] ↔ s.way = [] := by
  constructor
  · intro e
    rcases hs : s.way with _ | ⟨p, r⟩
    · rfl
    · have : p ∈ W := h.mem.2 (by rw [hs]; simp)
      rw [e] at this; cases this
  · intro e
    rcases hs : W with _ | ⟨p, r⟩
    · rfl
    · have : p ∈ s.way := h.mem.1 (by rw [hs]; simp)
      rw [e] at this; cases this
theorem atF_cons (f u : Int) (p : Int × MPkt) (W : List (Int × MPkt)) : atF f u (p :: W) = (if p.1 = u ∧ p.2.flow = f then [p] else []) ++ atF f u W := by
  unfold atF
  by_cases h : p.1 = u ∧ p.2.flow = f
  · rw [if_pos h, List.filter_cons_of_pos (by simp [h.1, h.2])]; rfl
  · rw [if_neg h, List.filter_cons_of_neg (by simpa using h)]; rfl
theorem SameW.perm {V W : List (Int × MPkt)} (h : SameW V W) : W.Perm V := by
  induction V generalizing W with
  | nil =>
    rcases W with _ | ⟨x, W⟩
    · exact .refl _
    · exact absurd (h.mem.2 (List.mem_cons_self (a := x) (l := W))) (by simp)
  | cons p V ih =>
    obtain ⟨A, B, hW, hA⟩ : ∃ A B, W = A ++ p :: B ∧ ∀ a ∈ A, ¬ (a.1 = p.1 ∧ a.2.flow = p.2.flow) := by
      have h1 := (h p.2.flow p.1).symm
      rw [atF_cons, if_pos ⟨rfl, rfl⟩] at h1
      clear ih h
      induction W with
      | nil => cases h1
      | cons y W ih2 =>
        rw [atF_cons] at h1
        by_cases e : y.1 = p.1 ∧ y.2.flow = p.2.flow
        · rw [if_pos e] at h1
          have h2 := (List.cons.inj h1).1
          subst h2
          exact ⟨[], W, rfl, fun a ha => by cases ha⟩
        · rw [if_neg e] at h1
          obtain ⟨A, B, hl, hA⟩ := ih2 h1
          refine ⟨y :: A, B, by rw [hl]; rfl, fun a ha => ?_⟩
          rcases List.mem_cons.1 ha with rfl | ha
          · exact e
          · exact hA a ha
    subst hW
    have h2 : SameW V (A ++ B) := fun f u => by
      have h1 := h f u
      rw [atF_app, atF_cons, atF_cons] at h1
      rw [atF_app]
      by_cases e : p.1 = u ∧ p.2.flow = f
      · have hn : atF f u A = [] := atF_nil fun a ha he => hA a ha ⟨he.1.trans e.1.symm, he.2.trans e.2.symm⟩
        rw [if_pos e, hn] at h1
        rw [hn]
        exact (List.cons.inj h1).2
      · rw [if_neg e] at h1
        exact h1
    exact List.perm_middle.trans ((ih h2).cons p)
/-- something is on its way or waits -/
theorem busy_iff {n : MNet} {t : Int} {s : Mot} (hi : InvM n t s) : 0 < s.left ↔ s.way ≠ [] ∨ ∃ g, g < n.gates.length ∧ s.lines g ≠ [] := by
  have h1 := hi.left
  have h2 := hi.tots
  have h0 : totP ([] : List MPkt) = 0 := rfl
  constructor
  · intro h
    by_cases hw : s.way = []
    · right
      by_cases hg : ∃ g, g < n.gates.length ∧ s.lines g ≠ []
      · exact hg
      · have h3 : ∀ k, k ≤ n.gates.length → totL s.lines k = 0 := fun k => by
          induction k with
          | zero => intro _; rfl
          | succ k ih =>
            intro hk
            have : s.lines k = [] := by
              rcases hs : s.lines k with _ | ⟨x, r⟩
              · rfl
              · exact absurd ⟨k, hk, by rw [hs]; simp⟩ hg
            rw [totL, ih (by omega), this]; rfl
        rw [hw, h3 _ (Nat.le_refl _)] at h1
        have : totW ([] : List (Int × MPkt)) = 0 := rfl
        omega
    · exact .inl hw
  · rintro (h | ⟨g, hg, h⟩)
    · have : 0 < s.way.length := List.length_pos_iff.2 h
      omega
    · have h3 := h2.2.2.2 g hg
      have : 0 < (s.lines g).length := List.length_pos_iff.2 h
      have h4 : (0 : Int) ≤ s.way.length := by omega
      omega
/-! ### the coming, packet by packet -/
theorem tk_snoc {α : Type} {l : List α} {k : Nat} {x : α} (h : l[k]? = some x) : l.take (k + 1) = l.take k ++ [x] := by rw [List.take_add_one, h]; rfl
theorem dr_snoc {α : Type} {l : List α} {k : Nat} {x : α} (h : l[k]? = some x) : l.drop k = x :: l.drop (k + 1) := by
  have hk : k < l.length := by
    rcases Nat.lt_or_ge k l.length with h1 | h1
    · exact h1
    · rw [List.getElem?_eq_none h1] at h; cases h
  rw [List.drop_eq_getElem_cons hk]
  rw [List.getElem?_eq_getElem hk] at h
  rw [Option.some.inj h]
/-- what has come when flow i is gone through up to place k -/
def preC (t : Int) (W : List (Int × MPkt)) (i k : Nat) : List MPkt := byF i (atW t W) ++ ofF (i : Int) (atW t (W.take k))
def preL (t : Int) (W : List (Int × MPkt)) (i k : Nat) : List (Int × MPkt) := lateK t i W ++ lateF t (i : Int) (W.take k)
theorem byF_succ (k : Nat) (l : List MPkt) : byF (k + 1) l = byF k l ++ ofF (k : Int) l := by
  unfold byF
  rw [List.range_succ, List.flatMap_append, List.flatMap_singleton]
theorem preC_row {t : Int} {W : List (Int × MPkt)} {i k : Nat} (hk : W.length ≤ k) : preC t W i k = byF (i + 1) (atW t W) := by
  unfold preC
  rw [List.take_of_length_le hk, byF_succ]
theorem preC_zero (t : Int) (W : List (Int × MPkt)) (i : Nat) : preC t W i 0 = byF i (atW t W) := by
  unfold preC
  rw [List.take_zero]
  show _ ++ [] = _
  rw [List.append_nil]
theorem preL_row {t : Int} {W : List (Int × MPkt)} {i k : Nat} (hk : W.length ≤ k) : preL t W i k = lateK t (i + 1) W := by
  unfold preL
  rw [List.take_of_length_le hk, lateK_succ]
theorem preL_zero (t : Int) (W : List (Int × MPkt)) (i : Nat) : preL t W i 0 = lateK t i W := by
  unfold preL
  rw [List.take_zero]
  show _ ++ [] = _
  rw [List.append_nil]
theorem preC_step {t : Int} {W : List (Int × MPkt)} {i k : Nat} {p : Int × MPkt} (h : W[k]? = some p) : preC t W i (k + 1) = preC t W i k ++ if p.1 = t ∧ p.2.flow = (i : Int) then [p.2] else [] := by
  unfold preC
  rw [tk_snoc h, atW_app, ofF_app, List.append_assoc]
  congr 2
  obtain ⟨u, x⟩ := p
  rw [atW_one]
  by_cases h1 : u = t
  · rw [if_pos h1]
    by_cases h2 : x.flow = (i : Int)
    · rw [if_pos ⟨h1, h2⟩, ofF_cons, if_pos h2]; rfl
    · rw [if_neg (fun h => h2 h.2), ofF_cons, if_neg h2]; rfl
  · rw [if_neg h1, if_neg (fun h => h1 h.1)]; rfl
theorem preL_step {t : Int} {W : List (Int × MPkt)} {i k : Nat} {p : Int × MPkt} (h : W[k]? = some p) : preL t W i (k + 1) = preL t W i k ++ if t < p.1 ∧ p.2.flow = (i : Int) then [p] else [] := by
  unfold preL
  rw [tk_snoc h, List.append_assoc]
  congr 1
  unfold lateF
  rw [List.filter_append]
  congr 1
  by_cases h1 : t < p.1 ∧ p.2.flow = (i : Int)
  · rw [if_pos h1, List.filter_cons_of_pos (by simp [h1.1, h1.2])]; rfl
  · rw [if_neg h1, List.filter_cons_of_neg (by simpa using h1)]; rfl
theorem byF_pre {t : Int} {W : List (Int × MPkt)} {k : Nat} : ∀ {m i : Nat}, i < m → ∃ R, byF m (atW t W) = preC t W i k ++ (ofF (i : Int) (atW t (W.drop k)) ++ R)
  | 0, _, h => by omega
  | m + 1, i, h => by
    rcases Nat.lt_or_ge i m with h1 | h1
    · obtain ⟨R, hR⟩ := byF_pre (t := t) (W := W) (k := k) h1
      exact ⟨R ++ ofF (m : Int) (atW t W), by rw [byF_succ, hR]; simp⟩
    · obtain rfl : i = m := by omega
      refine ⟨[], ?_⟩
      rw [byF_succ, List.append_nil]
      unfold preC
      rw [List.append_assoc, ← ofF_app, ← atW_app, List.take_append_drop]
/-- the invariant along the coming -/
def InvC (n : MNet) (t : Int) (s : Mot) (L P : List MPkt) : Prop := ∃ R, L = P ++ R ∧ InvA n (t + 1) R (P.foldl (arr n t) (gone t s))
theorem InvC.step {n : MNet} (hv : netB n = true) {t : Int} (h0 : 0 ≤ t) (h1 : t ≤ 10000) {s : Mot} {W : List (Int × MPkt)} {i k : Nat} {x : MPkt} (h : InvC n t s (byF n.flows.length (atW t W)) (preC t W i k)) (hi : i < n.flows.length) (hx : W[k]? = some (t, x)) (hf : x.flow = (i : Int)) :
    InvC n t s (byF n.flows.length (atW t W)) (preC t W i (k + 1)) ∧ (preC t W i (k + 1)).foldl (arr n t) (gone t s) = arr n t ((preC t W i k).foldl (arr n t) (gone t s)) x ∧ PkOk n x := by
  obtain ⟨R, hL, hA⟩ := h
  obtain ⟨R', hR'⟩ := byF_pre (t := t) (W := W) (k := k) hi
  rw [dr_snoc hx, show (t, x) :: W.drop (k + 1) = [(t, x)] ++ W.drop (k + 1) from rfl, atW_app, atW_one, if_pos rfl, ofF_app, ofF_cons, if_pos hf] at hR'
  have e : R = x :: (ofF (i : Int) (atW t (W.drop (k + 1))) ++ R') := by
    have h2 := hL.symm.trans hR'
    have h3 := List.append_cancel_left h2
    rw [h3]
    simp [ofF]
  subst e
  have hst : preC t W i (k + 1) = preC t W i k ++ [x] := by rw [preC_step hx, if_pos ⟨rfl, hf⟩]
  have hfo : (preC t W i (k + 1)).foldl (arr n t) (gone t s) = arr n t ((preC t W i k).foldl (arr n t) (gone t s)) x := by rw [hst, List.foldl_append]; rfl
  refine ⟨⟨_, by rw [hst, List.append_assoc]; exact hL, ?_⟩, hfo, hA.now x (by simp)⟩
  rw [hfo]
  exact hA.arr hv h0 h1
end Go.Proofs.Ytlbbhlkbhegegaa

/- The reference's net in motion, in memory. -/
namespace Go.Proofs.Ytlbbhlkbhegegaa
open Go.RowKit

/-- where the reference's rows lie -/
structure QPar where
  lb : Nat
  ob : Nat
  base : Nat
  ng : Nat
  nf : Nat
/-- lines and delays in memory; the way and what stays are rows of the labels 0 and 1 -/
structure PostB (q : QPar) (w : World) (own : Nat → Int) (hv : Int → Value) (l : Int → List (Int × MPkt)) (L : Nat → List MPkt) (out : Nat → Int) : Prop where
  lins : OwnF w q.lb 120 q.ng (fun g => hv (labG g))
  outs : OwnF w q.ob 3 q.nf (fun i => .int .i64 (out i))
  fam : Fam BK w q.base own hv l
  l4 : q.ob < q.base
  n6 : q.lb ≠ q.ob
  lbo : own q.lb = curL
  cur : hv curL = nilS
  size : q.base ≤ w.heap.size
  lk : ∀ g, (l (labG g)).map (·.2) = L g
theorem labG_cur {g : Nat} (h : g ≤ 1000) : labG g ≠ curL := fun e => by unfold labG curL at e; omega
section
variable {q : QPar} {w w' : World} {own own' : Nat → Int} {hv : Int → Value} {l : Int → List (Int × MPkt)} {L : Nat → List MPkt} {out : Nat → Int} {g : Nat}
theorem Fam.far {α : Type} {R : RK α} {base : Nat} {l : Int → List α} (h : Fam R w base own hv l) {b : Nat} (hb : own b = curL) (hc : hv curL = nilS) (j : Nat) (u : Value) : Fam R (w.setCell ⟨b, j, none⟩ u) base own hv l := fun lab => by
  by_cases e : lab = curL
  · have h2 := h lab
    rw [e, hc] at h2
    rw [e, hc]
    rcases h2 with ⟨h3, _⟩ | ⟨g, off, cap, F, h3, _⟩
    · exact .inl ⟨h3, _, rfl⟩
    · cases h3
  · exact (h lab).moved fun k _ _ h5 => ⟨Below.heap_setCell w ⟨b, j, none⟩ u k (fun e2 => by subst e2; exact e (h5.symm.trans hb)), h5⟩
theorem PostB.below (h : PostB q w own hv l L out) (hb : Below w.heap.size w w') : PostB q w' own hv l L out := by
  have hs := h.size
  have l4 := h.l4
  exact ⟨h.lins.below hb h.lins.lt, h.outs.below hb (by omega), h.fam.below hb, h.l4, h.n6, h.lbo, h.cur, Nat.le_trans hs hb.size, h.lk⟩
theorem PostB.alloc (h : PostB q w own hv l L out) (o : Obj) : PostB q (w.alloc o) own hv l L out := h.below ((Below.refl _ _).alloc (Nat.le_refl _) o)
theorem PostB.drew (h : PostB q w own hv l L out) : PostB q w.drew own hv l L out := h.below (Below.refl _ _).drew
theorem PostB.drewN (h : PostB q w own hv l L out) (k : Nat) : PostB q (w.drewN k) own hv l L out := h.below ⟨rfl, rfl, rfl, Nat.le_refl _, fun _ _ => rfl⟩
/-- what is new has the label of nothing -/
theorem PostB.later (h : PostB q w own hv l L out) (hb : Below w.heap.size w w') : PostB q w' (fun k => if w.heap.size ≤ k then curL else own k) hv l L out := by
  have h2 := h.below hb
  have hl := h.lins.lt
  exact ⟨h2.lins, h2.outs, fun lab => (h.fam lab).moved fun k _ h4 h5 => ⟨hb.block k h4, by show (if w.heap.size ≤ k then curL else own k) = lab; rw [if_neg (by omega)]; exact h5⟩, h2.l4, h2.n6, by show (if w.heap.size ≤ q.lb then curL else own q.lb) = curL; rw [if_neg (by omega)]; exact h.lbo, h2.cur, h2.size, h2.lk⟩
theorem PostB.setOut (h : PostB q w own hv l L out) (i : Nat) (y : Int) : PostB q (w.setCell ⟨q.ob, i, none⟩ (.int .i64 y)) own hv l L (fun k => if k = i then y else out k) := by
  refine ⟨h.lins.far (p := ⟨q.ob, i, none⟩) h.n6 _, (h.outs.set i _).congr fun j _ => ?_, h.fam.set h.l4 _, h.l4, h.n6, h.lbo, h.cur, by simpa using h.size, h.lk⟩
  show _ = Value.int .i64 (if j = i then y else out j)
  split <;> rfl
/-- a row that is no line is turned -/
theorem PostB.row (h : PostB q w own hv l L out) {lab : Int} (hl : ∀ g, labG g ≠ lab) (hlc : lab ≠ curL) {v' : Value} {r : List (Int × MPkt)} {row : Option Nat} (hf : Fam BK w' q.base own' (updI hv lab v') (updI l lab r)) (hg : w.grownBy w' row) (hr : ∀ k, row = some k → q.base ≤ k ∧ own k = lab) (ho : ∀ k, k < w.heap.size → own' k = own k) :
    PostB q w' own' (updI hv lab v') (updI l lab r) L out := by
  have hs := h.size
  have l4 := h.l4
  refine ⟨(h.lins.grown hg fun e => hlc (((hr _ e.symm).2).symm.trans h.lbo)).congr fun j _ => by rw [updI_other _ _ (hl j)], h.outs.grown hg (fun e => by have := (hr _ e.symm).1; omega), hf, h.l4, h.n6, (ho _ h.lins.lt).trans h.lbo, by rw [updI_other _ _ hlc.symm]; exact h.cur, Nat.le_trans hs hg.size, fun g => by rw [updI_other _ _ (hl g)]; exact h.lk g⟩
/-- a line's row is turned: new header stored -/
theorem PostB.line (h : PostB q w own hv l L out) (hg1 : g ≤ 1000) {v' : Value} {r : List (Int × MPkt)} {row : Option Nat} (hf : Fam BK w' q.base own' (updI hv (labG g) v') (updI l (labG g) r)) (hg : w.grownBy w' row) (hr : ∀ k, row = some k → q.base ≤ k ∧ own k = labG g) (ho : ∀ k, k < w.heap.size → own' k = own k) :
    PostB q (w'.setCell ⟨q.lb, g, none⟩ v') own' (updI hv (labG g) v') (updI l (labG g) r) (fun h => if h = g then r.map (·.2) else L h) out := by
  have hs := h.size
  have l4 := h.l4
  have hlc := labG_cur hg1
  have hlb := (ho _ h.lins.lt).trans h.lbo
  have hcur : updI hv (labG g) v' curL = nilS := by rw [updI_other _ _ hlc.symm]; exact h.cur
  refine ⟨((h.lins.grown hg fun e => hlc (((hr _ e.symm).2).symm.trans h.lbo)).set g v').congr fun j _ => ?_, (h.outs.grown hg (fun e => by have := (hr _ e.symm).1; omega)).far (p := ⟨q.lb, g, none⟩) h.n6.symm _, hf.far hlb hcur g v', h.l4, h.n6, hlb, hcur, by have := hg.size; simp; omega, fun k => ?_⟩
  · by_cases e : j = g
    · subst e; rw [if_pos rfl, updI_same]
    · rw [if_neg e, updI_other _ _ (labG_inj e)]
  · show (updI l (labG g) r (labG k)).map (·.2) = if k = g then r.map (·.2) else L k
    by_cases e : k = g
    · subst e; rw [if_pos rfl, updI_same]
    · rw [if_neg e, updI_other _ _ (labG_inj e)]; exact h.lk k
/-- the first of a line: its bytes -/
theorem PostB.head (h : PostB q w own hv l L out) (hg1 : g ≤ 1000) {d off cap n : Nat} {u : Int} {x : MPkt} {r : List (Int × MPkt)} (hv0 : hv (labG g) = .slice (some ⟨d, off, none⟩) n cap) (hl : l (labG g) = (u, x) :: r) (hd : q.base ≤ d) (hdo : own d = labG g) (m : Int) :
    PostB q (w.setCell ⟨d, off + 4, none⟩ (.int .i64 m)) own hv (updI l (labG g) ((u, { x with many := m }) :: r)) (fun h => if h = g then { x with many := m } :: r.map (·.2) else L h) out := by
  have l4 := h.l4
  have hlc := labG_cur hg1
  refine ⟨h.lins.far (p := ⟨d, off + 4, none⟩) (fun e => hlc (by have e : q.lb = d := e; rw [← hdo, ← e]; exact h.lbo)) _, h.outs.far (p := ⟨d, off + 4, none⟩) (by show q.ob ≠ d; omega) _, ?_, h.l4, h.n6, h.lbo, h.cur, by simpa using h.size, fun k => ?_⟩
  · exact h.fam.head (R := BK) (lab := labG g) hv0 hl (show 4 < 5 by omega) rfl fun j hj hj3 => by
      have hj : j < 5 := hj
      show byAt _ j = byAt _ j
      unfold byAt
      match j, hj with
      | 0, _ => rfl
      | 1, _ => rfl
      | 2, _ => rfl
      | 3, _ => rfl
      | 4, _ => exact absurd rfl hj3
  · show (updI l (labG g) _ (labG k)).map (·.2) = if k = g then _ else L k
    by_cases e : k = g
    · subst e; rw [if_pos rfl, updI_same]; rfl
    · rw [if_neg e, updI_other _ _ (labG_inj e)]; exact h.lk k
/-- the first of a line is gone -/
theorem PostB.pop (h : PostB q w own hv l L out) (hg1 : g ≤ 1000) {d off cap : Nat} {x : Int × MPkt} {r : List (Int × MPkt)} (hv0 : hv (labG g) = .slice (some ⟨d, off, none⟩) (r.length + 1) cap) (hl : l (labG g) = x :: r) {V : Value} (hV : V = .slice (if cap = 1 then some ⟨d, off, none⟩ else some ⟨d, off + 5, none⟩) r.length (cap - 1)) :
    PostB q (w.setCell ⟨q.lb, g, none⟩ V) own (updI hv (labG g) V) (updI l (labG g) r) (fun h => if h = g then r.map (·.2) else L h) out := by
  have h0 := h.fam (labG g)
  rw [hv0, hl] at h0
  have h1 := RowC.cut h0
  exact h.line hg1 (h.fam.put (labG g) (by rw [hV]; exact h1) (fun _ _ => rfl) (World.grownBy.refl w none) fun g hg => by cases hg) (World.grownBy.refl w none) (fun k hk => by cases hk) fun _ _ => rfl
/-- what stays becomes the way -/
theorem PostB.shift (h : PostB q w own hv l L out) : PostB q w (fun k => if own k = 0 then curL else if own k = 1 then 0 else own k) (updI (updI hv 0 (hv 1)) 1 nilS) (updI (updI l 0 (l 1)) 1 []) L out := by
  have h0 : ∀ g, labG g ≠ 0 := fun g => by unfold labG; omega
  have h1 : ∀ g, labG g ≠ 1 := fun g => by unfold labG; omega
  have c0 : curL ≠ 0 := by decide
  have c1 : curL ≠ 1 := by decide
  refine ⟨h.lins.congr fun j _ => by rw [updI_other _ _ (h1 j), updI_other _ _ (h0 j)], h.outs, fun lab => ?_, h.l4, h.n6, by show (if own q.lb = 0 then curL else if own q.lb = 1 then 0 else own q.lb) = curL; rw [h.lbo, if_neg c0, if_neg c1], by rw [updI_other _ _ c1, updI_other _ _ c0]; exact h.cur, h.size, fun g => by rw [updI_other _ _ (h1 g), updI_other _ _ (h0 g)]; exact h.lk g⟩
  by_cases e1 : lab = 1
  · subst e1; rw [updI_same, updI_same]; exact RowC.nil
  · rw [updI_other _ _ e1, updI_other _ _ e1]
    by_cases e0 : lab = 0
    · subst e0
      rw [updI_same, updI_same]
      exact (h.fam 1).moved fun g _ _ h5 => ⟨rfl, by show (if own g = 0 then curL else if own g = 1 then 0 else own g) = 0; rw [h5]; rfl⟩
    · rw [updI_other _ _ e0, updI_other _ _ e0]
      exact (h.fam lab).moved fun g _ _ h5 => ⟨rfl, by show (if own g = 0 then curL else if own g = 1 then 0 else own g) = lab; rw [h5, if_neg e0, if_neg e1]⟩
/-- what stays is forgotten -/
theorem PostB.forget (h : PostB q w own hv l L out) : PostB q w own (updI hv 1 nilS) (updI l 1 []) L out := by
  have h1 : ∀ g, labG g ≠ 1 := fun g => by unfold labG; omega
  exact ⟨h.lins.congr fun j _ => by rw [updI_other _ _ (h1 j)], h.outs, h.fam.drop 1, h.l4, h.n6, h.lbo, by rw [updI_other _ _ (by decide)]; exact h.cur, h.size, fun g => by rw [updI_other _ _ (h1 g)]; exact h.lk g⟩
end
/-- an append to a row that is no line -/
theorem app_row {q : QPar} {W w7 : World} {ow : Nat → Int} {H : Int → Value} {l : Int → List (Int × MPkt)} {L : Nat → List MPkt} {out : Nat → Int} {lab : Int} {x : Int × MPkt} {v' : Value} (hP : PostB q W ow H l L out) (hl : ∀ g, labG g ≠ lab) (hlc : lab ≠ curL) (hap : AppP BK W q.base ow H l lab x v' w7) :
    ∃ own7, PostB q w7 own7 (updI H lab v') (updI l lab (l lab ++ [x])) L out ∧ (∀ k, k < W.heap.size → own7 k = ow k) ∧ W.heap.size ≤ w7.heap.size ∧ (∀ B, B ≤ q.base → Below B W w7) ∧ ∀ k, k < W.heap.size → ow k ≠ lab → w7.heap[k]? = W.heap[k]? := by
  obtain ⟨own7, hf, ho, _, row, hg, hr⟩ := hap
  have hs := hP.size
  exact ⟨own7, hP.row hl hlc hf hg hr ho, ho, hg.size, fun B hB => ⟨hg.os, hg.tape, hg.output, hg.size, fun k hk => hg.block k (by omega) (fun e => by have := (hr k e.symm).1; omega)⟩, fun k hk hku => hg.block k hk fun e => hku (hr k e.symm).2⟩
/-- an append to a line -/
theorem app_lineB {q : QPar} {W w7 : World} {ow : Nat → Int} {H : Int → Value} {l : Int → List (Int × MPkt)} {L : Nat → List MPkt} {out : Nat → Int} {g : Nat} {x : Int × MPkt} {v' : Value} (hP : PostB q W ow H l L out) (hg1 : g ≤ 1000) (hap : AppP BK W q.base ow H l (labG g) x v' w7) :
    ∃ own7, PostB q (w7.setCell ⟨q.lb, g, none⟩ v') own7 (updI H (labG g) v') (updI l (labG g) (l (labG g) ++ [x])) (fun h => if h = g then L g ++ [x.2] else L h) out ∧ W.heap.size ≤ w7.heap.size ∧ ∀ B, B ≤ q.lb → B ≤ q.base → Below B W (w7.setCell ⟨q.lb, g, none⟩ v') := by
  obtain ⟨own7, hf, ho, _, row, hg, hr⟩ := hap
  have hs := hP.size
  have h1 := hP.line hg1 hf hg hr ho
  rw [List.map_append, hP.lk g] at h1
  refine ⟨own7, h1, hg.size, fun B hB hB2 => ?_⟩
  have hbl : Below B W w7 := ⟨hg.os, hg.tape, hg.output, hg.size, fun k hk => hg.block k (by omega) (fun e => by have := (hr k e.symm).1; omega)⟩
  exact hbl.setCell (p := ⟨q.lb, g, none⟩) hB _
theorem sizeof_bk (W : World) : (sizeOf 122).run Try.prog W = .ok 5 W := by
  obtain ⟨i0, hi, hz0, hz1, hz2⟩ := info_parts BK.info
  have hi : Try.prog.info? 122 = some i0 := hi
  have hz1 : i0.size = 5 := hz1
  simp [sizeOf, typeInfo, hi, hz1]
theorem slice_bk (W : World) (b off n cap : Nat) (h1 : 1 ≤ n) : (Instr.slice 120 (.slice (some ⟨b, off, none⟩) n cap) (some (.int .i64 1)) none none).run Try.prog W = .ok (.slice (if cap = 1 then some ⟨b, off, none⟩ else some ⟨b, off + 5, none⟩) (n - 1) (cap - 1)) W := by
  have he : Try.prog.elem 120 = 122 := by kernel_rfl
  rw [run_slice_l W 120 _ _ _ (by rw [he]; exact under_bys) .i64 _ (by omega) (by omega), he, sizeof_bk]
  simp [Result.andThen, sliced, Option.map_some, add_none']
theorem info_bys : (Try.prog.info? 120).map (fun i => (i.zero, i.size, i.bytes)) = some (some (.slice none 0 0), 1, 24) := by kernel_rfl
theorem under_linesB : Try.prog.underlying 123 = some (.slice 120) := by kernel_rfl
section
variable {ops : Array Oper} {rest : List Oper} {o : Oper} {a : Act} {Q : Exit → Act → World → Prop}
theorem mk_linesB (w : World) (hg : o.guard = none) (l c : Operand) (hop : o.op = .makeSlice 123 l c) (n : Nat) (hl : a.eval l = .int .i64 (n : Int)) (hc : a.eval c = .int .i64 (n : Int)) (hn : n ≤ 1000000)
    (hK : ∀ w', OwnF w' w.heap.size 120 n (fun _ => nilS) → Below w.heap.size w w' → wpList Try.prog ops Q rest (a.put o.dst (.slice (some ⟨w.heap.size, 0, none⟩) n n)) w') : wpList Try.prog ops Q (o :: rest) a w := by
  obtain ⟨i0, hi, hz0, hz1, hz2⟩ := info_parts info_bys
  refine wpList_make_full w hg l c 123 hop w.heap.size 120 i0 (.slice none 0 0) 1 under_linesB hi hz0 hz1 .i64 .i64 _ _ n hl hc rfl rfl (by rw [hz2]; omega) (by unfold maxLen; omega) (Nat.le_refl _) (fun w' h1 h2 => hK w' ?_ ?_)
  · exact (OwnF.of_row h1 rfl).congr fun j hj => made_get hj
  · exact (Below.refl _ _).grown h2 (Nat.le_refl _) (fun k hk => by cases hk)
end
end Go.Proofs.Ytlbbhlkbhegegaa
