/- Plain: a net in motion. -/
import Derived.Test.YtlbbhlkbhegegaaXa
import Derived.Test.YtlbbhlkbhegegaaDel
namespace Go.Proofs.Ytlbbhlkbhegegaa
open Go.RowKit

/-- a net in motion: what is on its way, with the tick in which it comes; the gates' lines; bytes; the longest delays -/
structure Mot where
  way : List (Int × MPkt)
  lines : Nat → List MPkt
  left : Int
  out : Nat → Int
def maxZ (a b : Int) : Int := if a < b then b else a
def pathOf (n : MNet) (x : MPkt) : List Int := (flowAt n x.flow.toNat).path
def hopG (n : MNet) (x : MPkt) : Nat := ((pathOf n x).getD x.hop.toNat 0).toNat
/-- a packet comes -/
def arr (n : MNet) (t : Int) (s : Mot) (x : MPkt) : Mot :=
  if x.hop = ((pathOf n x).length : Int) then { s with left := s.left - x.many, out := fun i => if i = x.flow.toNat then maxZ (s.out i) (t - x.born) else s.out i }
  else { s with lines := fun g => if g = hopG n x then s.lines g ++ [x] else s.lines g }
def atW (t : Int) (w : List (Int × MPkt)) : List MPkt := (w.filter fun p => p.1 == t).map (·.2)
/-- flow by flow -/
def byF (k : Nat) (l : List MPkt) : List MPkt := (List.range k).flatMap fun (i : Nat) => ofF (i : Int) l
def gone (t : Int) (s : Mot) : Mot := { s with way := s.way.filter fun p => p.1 != t }
def comeM (n : MNet) (t : Int) (s : Mot) : Mot := (byF n.flows.length (atW t s.way)).foldl (arr n t) (gone t s)
def hopped (x : MPkt) : MPkt := { x with hop := x.hop + 1 }
/-- what a gate sends of a line: what goes, and what stays -/
def sendL : Int → List MPkt → List MPkt × List MPkt
  | _, [] => ([], [])
  | c, x :: l =>
    if c ≤ 0 then ([], x :: l)
    else if x.many ≤ c then (hopped x :: (sendL (c - x.many) l).1, (sendL (c - x.many) l).2)
    else ([{ hopped x with many := c }], { x with many := x.many - c } :: l)
def sendM (n : MNet) (t : Int) (s : Mot) (g : Nat) : Mot :=
  { s with way := s.way ++ (sendL (gateAt n g).rate (s.lines g)).1.map (fun x => (t + (gateAt n g).delay, x)), lines := fun h => if h = g then (sendL (gateAt n g).rate (s.lines g)).2 else s.lines h }
def sendsM (n : MNet) (t : Int) (s : Mot) (k : Nat) : Mot := (List.range k).foldl (sendM n t) s
def tickM (n : MNet) (t : Int) (s : Mot) : Mot := sendsM n t (comeM n t s) n.gates.length
def runM (n : MNet) : Nat → Mot → Option Mot
  | 0, s => if 0 < s.left then none else some s
  | k + 1, s => if 0 < s.left then runM n k (tickM n (10000 - (k : Int)) s) else some s
/-- the traffic of a flow, up to a tick -/
def rowM (i : Nat) (l : List Int) (j : Nat) : List (Int × MPkt) := (List.range j).flatMap fun t => if 0 < l.getD t 0 then [((t : Int), ⟨i, 0, t, l.getD t 0⟩)] else []
def startW (tr : List (List Int)) (k : Nat) : List (Int × MPkt) := (List.range k).flatMap fun i => rowM i (tr.getD i []) (tr.getD i []).length
def totP (l : List MPkt) : Int := (l.map (·.many)).sum
def totW (w : List (Int × MPkt)) : Int := (w.map (·.2.many)).sum
def totL (f : Nat → List MPkt) : Nat → Int
  | 0 => 0
  | k + 1 => totL f k + totP (f k)
def startM (tr : List (List Int)) : Mot := ⟨startW tr tr.length, fun _ => [], totW (startW tr tr.length), fun _ => -1⟩
def lawfulB (l : List Int) : Bool := decide (l.length ≤ 64) && l.all fun b => inB b 0 1000
/-- what Send answers -/
def sendOut (n : MNet) (tr : List (List Int)) : List Int × Int :=
  if checkS n ≠ 0 then ([], checkS n)
  else if tr.length ≠ n.flows.length ∨ tr.all lawfulB = false then ([], 1)
  else match runM n 10001 (startM tr) with
    | none => ([], 41)
    | some s => ((List.range n.flows.length).map s.out, 0)

/-! ### sorted by flows -/
theorem srt_cut {l : List MPkt} (h : SrtF l) (m : Int) : l = l.filter (fun x => decide (x.flow < m)) ++ l.filter (fun x => decide (m ≤ x.flow)) := by
  induction l with
  | nil => rfl
  | cons x l ih =>
    have hp := List.pairwise_cons.1 h
    have ih := ih hp.2
    by_cases hx : x.flow < m
    · rw [List.filter_cons_of_pos (by simpa using hx), List.filter_cons_of_neg (by simpa using hx), List.cons_append, ← ih]
    · have h1 : l.filter (fun x => decide (x.flow < m)) = [] := List.filter_eq_nil_iff.2 fun y hy => by
        have := hp.1 y hy
        unfold LeF at this
        simp only [decide_eq_true_eq]; omega
      rw [h1, List.nil_append] at ih
      rw [List.filter_cons_of_neg (by simpa using hx), List.filter_cons_of_pos (by simp; omega), h1, List.nil_append, ← ih]
theorem ofF_filter {f : Int} {l : List MPkt} {p : MPkt → Bool} (h : ∀ x, x.flow = f → p x = true) : ofF f (l.filter p) = ofF f l := by
  unfold ofF
  rw [List.filter_filter]
  congr 1
  funext x
  by_cases hx : x.flow = f
  · simp [hx, h x hx]
  · simp [hx]
theorem flatMap_same {α β : Type} {l : List α} {f g : α → List β} (h : ∀ a ∈ l, f a = g a) : l.flatMap f = l.flatMap g := by
  induction l with
  | nil => rfl
  | cons a l ih => rw [List.flatMap_cons, List.flatMap_cons, h a (by simp), ih fun b hb => h b (by simp [hb])]
theorem srt_byF : ∀ (k : Nat) {l : List MPkt}, SrtF l → (∀ x ∈ l, 0 ≤ x.flow ∧ x.flow < k) → l = byF k l
  | 0, l, _, h => by
    rcases l with _ | ⟨x, l⟩
    · rfl
    · have := h x (by simp); omega
  | k + 1, l, hs, h => by
    have h1 := srt_cut hs (k : Int)
    have h2 : l.filter (fun x => decide ((k : Int) ≤ x.flow)) = ofF (k : Int) l := by
      unfold ofF
      apply List.filter_congr
      intro x hx
      have := h x hx
      by_cases e : x.flow = k
      · simp [e]
      · rw [beq_eq_false_iff_ne.2 e, decide_eq_false (by omega)]
    have h3 := srt_byF k (l := l.filter fun x => decide (x.flow < k)) (hs.filter _) (fun x hx => by
      rw [List.mem_filter] at hx
      have := h x hx.1
      have h4 := of_decide_eq_true hx.2
      omega)
    have h5 : byF k (l.filter fun x => decide (x.flow < k)) = byF k l := by
      unfold byF
      apply flatMap_same
      intro i hi
      have := List.mem_range.1 hi
      exact ofF_filter fun x hx => by rw [hx]; exact decide_eq_true (by omega)
    rw [h5] at h3
    unfold byF at h3 ⊢
    rw [List.range_succ, List.flatMap_append, List.flatMap_singleton, ← h3, ← h2]
    exact h1
theorem byF_congr {k : Nat} {l l' : List MPkt} (h : StQ l l') : byF k l' = byF k l := by
  unfold byF
  exact flatMap_same fun i _ => h i
theorem mem_byF {k : Nat} {l : List MPkt} {x : MPkt} (h : x ∈ byF k l) : x ∈ l := by
  unfold byF at h
  obtain ⟨i, _, hx⟩ := List.mem_flatMap.1 h
  exact (List.mem_filter.1 hx).1
theorem ofF_byF {l : List MPkt} {f : Int} : ∀ k : Nat, ofF f (byF k l) = if 0 ≤ f ∧ f < k then ofF f l else []
  | 0 => by rw [if_neg (by omega)]; rfl
  | k + 1 => by
    have ih := ofF_byF (l := l) (f := f) k
    unfold byF at ih ⊢
    rw [List.range_succ, List.flatMap_append, List.flatMap_singleton, ofF_app, ih]
    have h1 : ofF f (ofF (k : Int) l) = if f = k then ofF f l else [] := by
      by_cases e : f = k
      · subst e; rw [if_pos rfl]; unfold ofF; rw [List.filter_filter]; congr 1; funext x; simp
      · rw [if_neg e]; exact ofF_nil_of fun x hx => by
          unfold ofF at hx
          have := (List.mem_filter.1 hx).2
          have : x.flow = k := by simpa using this
          omega
    rw [h1]
    by_cases a : 0 ≤ f ∧ f < k
    · rw [if_pos a, if_neg (by omega), if_pos (by omega), List.append_nil]
    · rw [if_neg a]
      by_cases e : f = k
      · rw [if_pos e, if_pos (by omega)]; rfl
      · rw [if_neg e, if_neg (by omega)]; rfl
theorem stq_byF {k : Nat} {l : List MPkt} (h : ∀ x ∈ l, 0 ≤ x.flow ∧ x.flow < k) : StQ l (byF k l) := fun f => by
  rw [ofF_byF]
  by_cases a : 0 ≤ f ∧ f < k
  · rw [if_pos a]
  · rw [if_neg a]
    symm
    exact ofF_nil_of fun x hx e => by have := h x hx; omega
/-! ### sums -/
theorem totP_app (a b : List MPkt) : totP (a ++ b) = totP a + totP b := by unfold totP; simp
theorem totW_app (a b : List (Int × MPkt)) : totW (a ++ b) = totW a + totW b := by unfold totW; simp
theorem totP_perm {a b : List MPkt} (h : a.Perm b) : totP a = totP b := by
  induction h with
  | nil => rfl
  | cons x _ ih => unfold totP at ih ⊢; simp only [List.map_cons, List.sum_cons, ih]
  | swap x y l => unfold totP; simp only [List.map_cons, List.sum_cons]; omega
  | trans _ _ h1 h2 => exact h1.trans h2
theorem totW_map (w : List (Int × MPkt)) : totW w = totP (w.map (·.2)) := by unfold totW totP; rw [List.map_map]; rfl
theorem totW_at (u : Int) (l : List MPkt) : totW (l.map fun x => (u, x)) = totP l := by unfold totW totP; rw [List.map_map]; rfl
theorem totW_split (t : Int) (w : List (Int × MPkt)) : totW w = totP (atW t w) + totW (w.filter fun p => p.1 != t) := by
  induction w with
  | nil => rfl
  | cons p w ih =>
    unfold atW totW totP at ih ⊢
    by_cases h : p.1 = t
    · rw [List.filter_cons_of_pos (by simpa using h), List.filter_cons_of_neg (by simpa using h)]
      simp only [List.map_cons, List.sum_cons, ih]
      omega
    · rw [List.filter_cons_of_neg (by simpa using h), List.filter_cons_of_pos (by simpa using h)]
      simp only [List.map_cons, List.sum_cons, ih]
      omega
theorem len_tot {l : List MPkt} (h : ∀ x ∈ l, 1 ≤ x.many) : (l.length : Int) ≤ totP l := by
  induction l with
  | nil => exact Int.le_refl _
  | cons x l ih =>
    have h1 := ih fun y hy => h y (by simp [hy])
    have h2 := h x (by simp)
    unfold totP at h1 ⊢
    simp only [List.map_cons, List.sum_cons, List.length_cons]
    omega
theorem totL_set (f : Nat → List MPkt) (g : Nat) (l : List MPkt) : ∀ k, totL (fun h => if h = g then l else f h) k = totL f k + if g < k then totP l - totP (f g) else 0
  | 0 => by simp [totL]
  | k + 1 => by
    rw [totL, totL, totL_set f g l k]
    by_cases e : k = g
    · subst e
      rw [if_pos rfl, if_neg (Nat.lt_irrefl _), if_pos (Nat.lt_succ_self _)]
      omega
    · rw [if_neg e]
      by_cases h : g < k
      · rw [if_pos h, if_pos (by omega)]; omega
      · rw [if_neg h, if_neg (by omega)]; omega
theorem totL_ge (f : Nat → List MPkt) (h : ∀ g, ∀ x ∈ f g, 1 ≤ x.many) (g : Nat) : ∀ k, 0 ≤ totL f k ∧ (g < k → ((f g).length : Int) ≤ totL f k)
  | 0 => ⟨Int.le_refl _, fun h => by omega⟩
  | k + 1 => by
    have ih := totL_ge f h g k
    have h1 := len_tot (h k)
    rw [totL]
    refine ⟨by omega, fun hg => ?_⟩
    by_cases e : g = k
    · subst e; omega
    · have := ih.2 (by omega); omega
/-! ### what a gate sends -/
theorem sendL_tot : ∀ (l : List MPkt) (c : Int), totP (sendL c l).1 + totP (sendL c l).2 = totP l
  | [], c => by simp [sendL, totP]
  | x :: l, c => by
    rw [sendL]
    by_cases h : c ≤ 0
    · rw [if_pos h]; simp [totP]
    · rw [if_neg h]
      by_cases h2 : x.many ≤ c
      · rw [if_pos h2]
        have := sendL_tot l (c - x.many)
        unfold totP at this ⊢
        unfold hopped
        simp only [List.map_cons, List.sum_cons]
        omega
      · rw [if_neg h2]
        unfold totP
        simp only [List.map_cons, List.sum_cons, List.map_nil, List.sum_nil]
        omega
/-- packets that are valid: below a bound of bytes -/
structure PkOk (n : MNet) (x : MPkt) : Prop where
  flow0 : 0 ≤ x.flow
  flow1 : x.flow < n.flows.length
  hop0 : 0 ≤ x.hop
  hop1 : x.hop ≤ (pathOf n x).length
  many1 : 1 ≤ x.many
  many2 : x.many ≤ 1000
  born0 : 0 ≤ x.born
  born1 : x.born ≤ 64
def AtG (n : MNet) (g : Nat) (x : MPkt) : Prop := PkOk n x ∧ x.hop < (pathOf n x).length ∧ hopG n x = g
theorem sendL_ok {n : MNet} {g : Nat} : ∀ {l : List MPkt} (c : Int), (∀ x ∈ l, AtG n g x) → (∀ x ∈ (sendL c l).1, PkOk n x) ∧ ∀ x ∈ (sendL c l).2, AtG n g x
  | [], c, _ => ⟨fun x hx => by simp [sendL] at hx, fun x hx => by simp [sendL] at hx⟩
  | x :: l, c, h => by
    have hx := h x (by simp)
    have hl : ∀ y ∈ l, AtG n g y := fun y hy => h y (by simp [hy])
    rw [sendL]
    by_cases h1 : c ≤ 0
    · rw [if_pos h1]; exact ⟨fun y hy => absurd hy (by simp), h⟩
    · rw [if_neg h1]
      by_cases h2 : x.many ≤ c
      · rw [if_pos h2]
        have ih := sendL_ok (c - x.many) hl
        refine ⟨fun y hy => ?_, ih.2⟩
        rcases List.mem_cons.1 hy with rfl | hy
        · exact ⟨hx.1.flow0, hx.1.flow1, by have := hx.1.hop0; show 0 ≤ x.hop + 1; omega, hx.2.1, hx.1.many1, hx.1.many2, hx.1.born0, hx.1.born1⟩
        · exact ih.1 y hy
      · rw [if_neg h2]
        have hm := hx.1.many2
        refine ⟨fun y hy => ?_, fun y hy => ?_⟩
        · obtain rfl := List.mem_singleton.1 hy
          exact ⟨hx.1.flow0, hx.1.flow1, by have := hx.1.hop0; show 0 ≤ x.hop + 1; omega, hx.2.1, by show 1 ≤ c; omega, by show c ≤ 1000; omega, hx.1.born0, hx.1.born1⟩
        · rcases List.mem_cons.1 hy with rfl | hy
          · exact ⟨⟨hx.1.flow0, hx.1.flow1, hx.1.hop0, hx.1.hop1, by show 1 ≤ x.many - c; omega, by show x.many - c ≤ 1000; omega, hx.1.born0, hx.1.born1⟩, hx.2.1, hx.2.2⟩
          · exact hl y hy
/-! ### what always holds -/
/-- in the tick t, behind its coming, but for what is still to be put: the packets l -/
structure InvA (n : MNet) (t : Int) (l : List MPkt) (s : Mot) : Prop where
  now : ∀ x ∈ l, PkOk n x
  way : ∀ p ∈ s.way, t ≤ p.1 ∧ p.1 ≤ 20000 ∧ PkOk n p.2
  lines : ∀ g, ∀ x ∈ s.lines g, AtG n g x
  left : s.left = totP l + totW s.way + totL s.lines n.gates.length
  most : s.left ≤ 6000
  out : ∀ i, -1 ≤ s.out i ∧ s.out i ≤ 20000
def InvM (n : MNet) (t : Int) (s : Mot) : Prop := InvA n t [] s
theorem InvA.tots {n : MNet} {t : Int} {l : List MPkt} {s : Mot} (h : InvA n t l s) : (l.length : Int) ≤ totP l ∧ (s.way.length : Int) ≤ totW s.way ∧ 0 ≤ totL s.lines n.gates.length ∧ ∀ g, g < n.gates.length → ((s.lines g).length : Int) ≤ totL s.lines n.gates.length := by
  have h1 := len_tot fun x hx => (h.now x hx).many1
  have h2 := len_tot (l := s.way.map (·.2)) fun x hx => by
    obtain ⟨p, hp, rfl⟩ := List.mem_map.1 hx
    exact (h.way p hp).2.2.many1
  rw [List.length_map, ← totW_map] at h2
  have h3 := fun g => totL_ge s.lines (fun g x hx => (h.lines g x hx).1.many1) g n.gates.length
  exact ⟨h1, h2, (h3 0).1, fun g => (h3 g).2⟩
theorem InvA.bd {n : MNet} {t : Int} {l : List MPkt} {s : Mot} (h : InvA n t l s) : 0 ≤ s.left ∧ l.length ≤ 6000 ∧ s.way.length ≤ 6000 ∧ ∀ g, g < n.gates.length → (s.lines g).length ≤ 6000 := by
  obtain ⟨h1, h2, h3, h4⟩ := h.tots
  have := h.left
  have := h.most
  exact ⟨by omega, by omega, by omega, fun g hg => by have := h4 g hg; omega⟩
theorem mem_atW {t : Int} {w : List (Int × MPkt)} {x : MPkt} (h : x ∈ atW t w) : (t, x) ∈ w := by
  unfold atW at h
  obtain ⟨p, hp, rfl⟩ := List.mem_map.1 h
  rw [List.mem_filter] at hp
  have := eq_of_beq hp.2
  subst this
  exact hp.1
theorem atW_flow {n : MNet} {t : Int} {s : Mot} (h : InvM n t s) {u : Int} : ∀ x ∈ atW u s.way, 0 ≤ x.flow ∧ x.flow < n.flows.length := fun x hx => by
  have := (h.way _ (mem_atW hx)).2.2
  exact ⟨this.flow0, this.flow1⟩
theorem InvM.start {n : MNet} {t : Int} {s : Mot} (h : InvM n t s) : InvA n (t + 1) (byF n.flows.length (atW t s.way)) (gone t s) := by
  have hp : totP (byF n.flows.length (atW t s.way)) = totP (atW t s.way) := totP_perm (stq_byF (atW_flow h)).perm
  refine ⟨fun x hx => (h.way _ (mem_atW (mem_byF hx))).2.2, fun p hp => ?_, h.lines, ?_, h.most, h.out⟩
  · unfold gone at hp
    rw [List.mem_filter] at hp
    have h1 := h.way p hp.1
    have h2 : p.1 ≠ t := by simpa using hp.2
    exact ⟨by omega, h1.2⟩
  · have h1 := h.left
    have h2 := totW_split t s.way
    have h3 : totP ([] : List MPkt) = 0 := rfl
    rw [hp]
    show s.left = _ + totW (s.way.filter _) + totL s.lines _
    omega
theorem hopG_lt {n : MNet} (hv : netB n = true) {x : MPkt} (h : PkOk n x) (hh : x.hop < (pathOf n x).length) : hopG n x < n.gates.length ∧ (((pathOf n x).getD x.hop.toNat 0) = (hopG n x : Int)) := by
  obtain ⟨fl, hf⟩ : ∃ fl, n.flows[x.flow.toNat]? = some fl := ⟨_, List.getElem?_eq_getElem (show x.flow.toNat < n.flows.length by have := h.flow0; have := h.flow1; omega)⟩
  have h1 : ∀ i, i < fl.path.length → 0 ≤ fl.path.getD i 0 ∧ fl.path.getD i 0 < n.gates.length := fun i hi => by
    have h1 := (netB_flow hv hf).2.2
    unfold pathB at h1
    have h2 := List.all_eq_true.1 h1 i (List.mem_range.2 hi)
    unfold hopB at h2
    rw [Bool.and_eq_true, inB_iff] at h2
    omega
  have he : pathOf n x = fl.path := by unfold pathOf; rw [flowAt_of hf]
  rw [he] at hh ⊢
  have h0 := h.hop0
  have h2 := h1 x.hop.toNat (by omega)
  unfold hopG
  rw [he]
  omega
theorem InvA.arr {n : MNet} (hv : netB n = true) {t : Int} (ht0 : 0 ≤ t) (ht1 : t ≤ 10000) {x : MPkt} {l : List MPkt} {s : Mot} (h : InvA n (t + 1) (x :: l) s) : InvA n (t + 1) l (arr n t s x) := by
  have hx := h.now x (by simp)
  have hl : ∀ y ∈ l, PkOk n y := fun y hy => h.now y (by simp [hy])
  have hL : totP (x :: l) = x.many + totP l := by unfold totP; simp
  have h1 := h.left
  rw [hL] at h1
  have := hx.many1
  have := h.most
  unfold Go.Proofs.Ytlbbhlkbhegegaa.arr
  by_cases e : x.hop = ((pathOf n x).length : Int)
  · rw [if_pos e]
    refine ⟨hl, h.way, h.lines, by show s.left - x.many = totP l + totW s.way + totL s.lines _; omega, by show s.left - x.many ≤ 6000; omega, fun i => ?_⟩
    show -1 ≤ (if i = x.flow.toNat then maxZ (s.out i) (t - x.born) else s.out i) ∧ _
    have h2 := h.out i
    have h3 := hx.born0
    have h4 := hx.born1
    unfold maxZ
    show _ ∧ (if i = x.flow.toNat then (if s.out i < t - x.born then t - x.born else s.out i) else s.out i) ≤ 20000
    split
    · split <;> omega
    · exact h2
  · rw [if_neg e]
    have hh : x.hop < (pathOf n x).length := by have := hx.hop1; omega
    have hg := (hopG_lt hv hx hh).1
    refine ⟨hl, h.way, fun g y hy => ?_, ?_, h.most, h.out⟩
    · have hy : y ∈ (if g = hopG n x then s.lines g ++ [x] else s.lines g) := hy
      by_cases e2 : g = hopG n x
      · rw [if_pos e2] at hy
        rcases List.mem_append.1 hy with hy | hy
        · exact h.lines g y hy
        · obtain rfl := List.mem_singleton.1 hy
          exact ⟨hx, hh, e2.symm⟩
      · rw [if_neg e2] at hy
        exact h.lines g y hy
    · show s.left = totP l + totW s.way + totL (fun g => if g = hopG n x then s.lines g ++ [x] else s.lines g) _
      have e3 : (fun g => if g = hopG n x then s.lines g ++ [x] else s.lines g) = fun g => if g = hopG n x then s.lines (hopG n x) ++ [x] else s.lines g := by
        funext g
        by_cases e : g = hopG n x
        · rw [if_pos e, if_pos e, e]
        · rw [if_neg e, if_neg e]
      rw [e3, totL_set, if_pos hg, totP_app]
      have : totP [x] = x.many := by unfold totP; simp
      omega
theorem InvA.fold {n : MNet} (hv : netB n = true) {t : Int} (ht0 : 0 ≤ t) (ht1 : t ≤ 10000) : ∀ {l : List MPkt} {s : Mot}, InvA n (t + 1) l s → InvM n (t + 1) (l.foldl (Go.Proofs.Ytlbbhlkbhegegaa.arr n t) s)
  | [], _, h => h
  | x :: l, s, h => InvA.fold (l := l) (s := Go.Proofs.Ytlbbhlkbhegegaa.arr n t s x) hv ht0 ht1 (h.arr hv ht0 ht1)
theorem InvM.come {n : MNet} (hv : netB n = true) {t : Int} (ht0 : 0 ≤ t) (ht1 : t ≤ 10000) {s : Mot} (h : InvM n t s) : InvM n (t + 1) (comeM n t s) := h.start.fold hv ht0 ht1
theorem InvM.sendM {n : MNet} (hv : netB n = true) {t : Int} (ht0 : 0 ≤ t) (ht1 : t ≤ 10000) {s : Mot} {g : Nat} (hg : g < n.gates.length) (h : InvM n (t + 1) s) : InvM n (t + 1) (Go.Proofs.Ytlbbhlkbhegegaa.sendM n t s g) := by
  have hgg : n.gates[g]? = some n.gates[g] := List.getElem?_eq_getElem hg
  have hd := (netB_gate hv hgg).2
  have hga := gateAt_of hgg
  have hok := sendL_ok (gateAt n g).rate (h.lines g)
  refine ⟨fun x hx => absurd hx (by simp), fun p hp => ?_, fun k x hx => ?_, ?_, h.most, h.out⟩
  · rcases List.mem_append.1 hp with hp | hp
    · exact h.way p hp
    · obtain ⟨x, hx, rfl⟩ := List.mem_map.1 hp
      refine ⟨?_, ?_, hok.1 x hx⟩
      · show t + 1 ≤ t + (gateAt n g).delay
        rw [hga]; omega
      · show t + (gateAt n g).delay ≤ 20000
        rw [hga]; omega
  · have hx : x ∈ (if k = g then (sendL (gateAt n g).rate (s.lines g)).2 else s.lines k) := hx
    by_cases e : k = g
    · rw [if_pos e] at hx; rw [e]; exact hok.2 x hx
    · rw [if_neg e] at hx; exact h.lines k x hx
  · show s.left = totP [] + totW (s.way ++ _) + totL (fun k => if k = g then _ else s.lines k) _
    have h1 := h.left
    have h2 := sendL_tot (s.lines g) (gateAt n g).rate
    rw [totW_app, totW_at, totL_set, if_pos hg]
    omega
theorem sendsM_succ (n : MNet) (t : Int) (s : Mot) (k : Nat) : sendsM n t s (k + 1) = sendM n t (sendsM n t s k) k := by
  unfold sendsM
  rw [List.range_succ, List.foldl_append]
  rfl
theorem InvM.sends {n : MNet} (hv : netB n = true) {t : Int} (ht0 : 0 ≤ t) (ht1 : t ≤ 10000) {s : Mot} (h : InvM n (t + 1) s) : ∀ k, k ≤ n.gates.length → InvM n (t + 1) (sendsM n t s k)
  | 0, _ => h
  | k + 1, hk => by
    rw [sendsM_succ]
    exact (InvM.sends hv ht0 ht1 h k (by omega)).sendM hv ht0 ht1 (by omega)
theorem InvM.tick {n : MNet} (hv : netB n = true) {t : Int} (ht0 : 0 ≤ t) (ht1 : t ≤ 10000) {s : Mot} (h : InvM n t s) : InvM n (t + 1) (tickM n t s) := (h.come hv ht0 ht1).sends hv ht0 ht1 _ (Nat.le_refl _)
/-! ### the start -/
theorem rowM_succ (i : Nat) (l : List Int) (j : Nat) : rowM i l (j + 1) = rowM i l j ++ if 0 < l.getD j 0 then [((j : Int), ⟨i, 0, j, l.getD j 0⟩)] else [] := by
  unfold rowM
  rw [List.range_succ, List.flatMap_append, List.flatMap_singleton]
theorem startW_succ (tr : List (List Int)) (k : Nat) : startW tr (k + 1) = startW tr k ++ rowM k (tr.getD k []) (tr.getD k []).length := by
  unfold startW
  rw [List.range_succ, List.flatMap_append, List.flatMap_singleton]
theorem lawful_at {tr : List (List Int)} (h : tr.all lawfulB = true) {i : Nat} {l : List Int} (hi : tr[i]? = some l) : l.length ≤ 64 ∧ ∀ b ∈ l, 0 ≤ b ∧ b ≤ 1000 := by
  have h1 := List.all_eq_true.1 h l (List.mem_of_getElem? hi)
  unfold lawfulB at h1
  rw [Bool.and_eq_true, List.all_eq_true] at h1
  refine ⟨of_decide_eq_true h1.1, fun b hb => ?_⟩
  have := h1.2 b hb
  rwa [inB_iff] at this
theorem startW_ok {n : MNet} {tr : List (List Int)} (h : tr.all lawfulB = true) (hn : tr.length = n.flows.length) : ∀ p ∈ startW tr tr.length, 0 ≤ p.1 ∧ p.1 ≤ 20000 ∧ PkOk n p.2 := fun p hp => by
  unfold startW at hp
  obtain ⟨i, hi, hp⟩ := List.mem_flatMap.1 hp
  have hi := List.mem_range.1 hi
  have hg : tr[i]? = some tr[i] := List.getElem?_eq_getElem hi
  have h1 := lawful_at h hg
  unfold rowM at hp
  obtain ⟨t, ht, hp⟩ := List.mem_flatMap.1 hp
  have ht := List.mem_range.1 ht
  have hgd : tr.getD i [] = tr[i] := by rw [List.getD_eq_getElem?_getD, hg]; rfl
  rw [hgd] at ht hp
  have ht : t < tr[i].length := ht
  have h2 := h1.2 _ (List.getElem_mem ht)
  have e : (tr[i]).getD t 0 = (tr[i])[t] := by rw [List.getD_eq_getElem?_getD, List.getElem?_eq_getElem ht]; rfl
  split at hp
  · rename_i hb
    obtain rfl := List.mem_singleton.1 hp
    have hb : 0 < (tr[i]).getD t 0 := hb
    refine ⟨by show (0 : Int) ≤ (t : Int); omega, by show (t : Int) ≤ 20000; omega, ⟨by show (0 : Int) ≤ (i : Int); omega, by show (i : Int) < _; omega, by show (0 : Int) ≤ 0; omega, by show (0 : Int) ≤ _; omega, ?_, ?_, by show (0 : Int) ≤ (t : Int); omega, by show (t : Int) ≤ 64; omega⟩⟩
    · show (1 : Int) ≤ (tr[i]).getD t 0; omega
    · show (tr[i]).getD t 0 ≤ 1000; omega
  · cases hp
theorem startM_inv {n : MNet} {tr : List (List Int)} (h : tr.all lawfulB = true) (hn : tr.length = n.flows.length) (hm : totW (startW tr tr.length) ≤ 6000) : InvM n 0 (startM tr) := by
  have h0 : ∀ k, totL (fun _ => []) k = 0 := fun k => by
    induction k with
    | zero => rfl
    | succ k ih => rw [totL, ih]; rfl
  refine ⟨fun x hx => absurd hx (by simp), startW_ok h hn, fun g x hx => absurd hx (by show ¬ x ∈ []; simp), ?_, hm, fun i => ⟨by show (-1 : Int) ≤ -1; omega, by show (-1 : Int) ≤ 20000; omega⟩⟩
  show totW (startW tr tr.length) = totP [] + totW (startW tr tr.length) + totL (fun _ => []) _
  rw [h0]
  have : totP ([] : List MPkt) = 0 := rfl
  omega
end Go.Proofs.Ytlbbhlkbhegegaa
