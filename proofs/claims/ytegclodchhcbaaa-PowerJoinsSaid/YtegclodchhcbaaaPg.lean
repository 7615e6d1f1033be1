/- Plain: power grids, their tables, their cuts. -/
import Derived.Test.YtegclodchhcbaaaFl
namespace Go.Proofs.Ytegclodchhcbaaa

structure MLine where
  a : Int
  b : Int
  limit : Int
  one : Bool
structure MSrc where
  node : Int
  power : Int
structure MUser where
  node : Int
  power : Int
  level : Int
structure MFault where
  kind : Int
  number : Int
structure MGrid where
  nodes : Int
  lines : List MLine
  srcs : List MSrc
  users : List MUser
def dLine : MLine := ⟨0, 0, 0, false⟩
def dSrc : MSrc := ⟨0, 0⟩
def dUser : MUser := ⟨0, 0, 0⟩
def dFault : MFault := ⟨0, 0⟩
def inB (n lo hi : Int) : Bool := decide (lo ≤ n) && decide (n ≤ hi)
theorem inB_iff {n lo hi : Int} : inB n lo hi = true ↔ lo ≤ n ∧ n ≤ hi := by simp [inB]
def lineB (n : Int) (l : MLine) : Bool := inB l.a 0 (n - 1) && (inB l.b 0 (n - 1) && (!(l.a == l.b) && inB l.limit 0 100000))
def srcB (n : Int) (s : MSrc) : Bool := inB s.node 0 (n - 1) && inB s.power 0 100000
def userB (n : Int) (u : MUser) : Bool := inB u.node 0 (n - 1) && (inB u.power 1 100000 && inB u.level 0 4)
/-- the first error of a grid -/
def checkG (g : MGrid) : Int :=
  if inB g.nodes 1 20 = false then 80
  else if 40 < g.lines.length ∨ 6 < g.srcs.length ∨ 20 < g.users.length then 2
  else if g.lines.all (lineB g.nodes) = false then 81
  else if g.srcs.all (srcB g.nodes) = false then 71
  else if g.users.all (userB g.nodes) = false then 71
  else 0
structure GridOk (g : MGrid) (n : Nat) : Prop where
  nodes : g.nodes = n
  few : 1 ≤ n ∧ n ≤ 20
  nl : g.lines.length ≤ 40
  ns : g.srcs.length ≤ 6
  nu : g.users.length ≤ 20
  line : ∀ l ∈ g.lines, (0 ≤ l.a ∧ l.a < n) ∧ (0 ≤ l.b ∧ l.b < n) ∧ l.a ≠ l.b ∧ 0 ≤ l.limit ∧ l.limit ≤ 100001
  src : ∀ s ∈ g.srcs, (0 ≤ s.node ∧ s.node < n) ∧ 0 ≤ s.power ∧ s.power ≤ 100000
  user : ∀ u ∈ g.users, (0 ≤ u.node ∧ u.node < n) ∧ (1 ≤ u.power ∧ u.power ≤ 1000000) ∧ 0 ≤ u.level ∧ u.level ≤ 4
theorem checkG_ok {g : MGrid} (h : checkG g = 0) : ∃ n, GridOk g n := by
  unfold checkG at h
  split at h
  · exact absurd h (by decide)
  · rename_i h1
    split at h
    · exact absurd h (by decide)
    · rename_i h2
      split at h
      · exact absurd h (by decide)
      · rename_i h3
        split at h
        · exact absurd h (by decide)
        · rename_i h4
          split at h
          · exact absurd h (by decide)
          · rename_i h5
            simp only [Bool.not_eq_false] at h1 h3 h4 h5
            rw [inB_iff] at h1
            obtain ⟨n, hn⟩ : ∃ n : Nat, g.nodes = n := ⟨g.nodes.toNat, by omega⟩
            refine ⟨n, hn, by omega, by omega, by omega, by omega, fun l hl => ?_, fun s hs => ?_, fun u hu => ?_⟩
            · have := List.all_eq_true.1 h3 l hl
              unfold lineB at this
              simp only [Bool.and_eq_true, inB_iff, Bool.not_eq_true', beq_eq_false_iff_ne] at this
              omega
            · have := List.all_eq_true.1 h4 s hs
              unfold srcB at this
              simp only [Bool.and_eq_true, inB_iff] at this
              omega
            · have := List.all_eq_true.1 h5 u hu
              unfold userB at this
              simp only [Bool.and_eq_true, inB_iff] at this
              omega
/-- a fault names something -/
def lostB (F : List MFault) (kind number : Int) : Bool := F.any fun f => f.kind == kind && f.number == number
def lineOn (F : List MFault) (i : Nat) (l : MLine) : Bool := !lostB F 2 i && (!lostB F 3 l.a && !lostB F 3 l.b)
def srcOn (F : List MFault) (i : Nat) (s : MSrc) : Bool := !lostB F 1 i && !lostB F 3 s.node
def addT (c : Tab) (i k : Nat) (v : Int) : Tab := upd c i k (c i k + v)
def lineT (F : List MFault) (c : Tab) (i : Nat) (l : MLine) : Tab :=
  if lineOn F i l = true then (if l.one = true then addT c l.a.toNat l.b.toNat l.limit else addT (addT c l.a.toNat l.b.toNat l.limit) l.b.toNat l.a.toNat l.limit) else c
def linesT (F : List MFault) (ls : List MLine) (c : Tab) : Nat → Tab
  | 0 => c
  | k + 1 => lineT F (linesT F ls c k) k (ls.getD k dLine)
def srcT (F : List MFault) (b : Nat) (c : Tab) (i : Nat) (s : MSrc) : Tab := if srcOn F i s = true then addT c b s.node.toNat s.power else c
def srcsT (F : List MFault) (b : Nat) (ss : List MSrc) (c : Tab) : Nat → Tab
  | 0 => c
  | k + 1 => srcT F b (srcsT F b ss c k) k (ss.getD k dSrc)
def userT (F : List MFault) (e : Nat) (c : Tab) (u : MUser) : Tab := if lostB F 3 u.node = true then c else addT c u.node.toNat e u.power
def usersT (F : List MFault) (e : Nat) (us : List MUser) (want : List Int) (c : Tab) : Nat → Tab
  | 0 => c
  | k + 1 => userT F e (usersT F e us want c k) (us.getD (want.getD k 0).toNat dUser)
def zeroT : Tab := fun _ _ => 0
/-- ours: lines, sources, users -/
def ourT (g : MGrid) (F : List MFault) (want : List Int) (b e : Nat) : Tab :=
  usersT F e g.users want (srcsT F b g.srcs (linesT F g.lines zeroT g.lines.length) g.srcs.length) want.length
/-- the reference's: sources, lines, users -/
def refT (g : MGrid) (F : List MFault) (want : List Int) (b e : Nat) : Tab :=
  usersT F e g.users want (linesT F g.lines (srcsT F b g.srcs zeroT g.srcs.length) g.lines.length) want.length
def ind (p : Bool) (v : Int) : Int := if p = true then v else 0
def lineC (F : List MFault) (S : Nat → Bool) (i : Nat) (l : MLine) : Int :=
  ind (lineOn F i l && (S l.a.toNat && !S l.b.toNat)) l.limit + ind (lineOn F i l && (!l.one && (S l.b.toNat && !S l.a.toNat))) l.limit
def srcC (F : List MFault) (S : Nat → Bool) (i : Nat) (s : MSrc) : Int := ind (srcOn F i s && !S s.node.toNat) s.power
def userC (F : List MFault) (S : Nat → Bool) (u : MUser) : Int := ind (!lostB F 3 u.node && S u.node.toNat) u.power
/-- the cut of a set of nodes -/
def cutG (g : MGrid) (F : List MFault) (want : List Int) (S : Nat → Bool) : Int :=
  sumN (fun i => lineC F S i (g.lines.getD i dLine)) g.lines.length + sumN (fun i => srcC F S i (g.srcs.getD i dSrc)) g.srcs.length + sumN (fun i => userC F S (g.users.getD (want.getD i 0).toNat dUser)) want.length
theorem cut_addT {N : Nat} {c : Tab} {S : Nat → Bool} {i k : Nat} {v : Int} (hi : i < N) (hk : k < N) : cutN N (addT c i k v) S = cutN N c S + ind (S i && !S k) v := by
  unfold addT
  rw [cut_upd hi hk]
  unfold ind
  rcases hsi : S i <;> rcases hsk : S k <;> simp <;> omega
theorem cut_lineT {N : Nat} {F : List MFault} {c : Tab} {S : Nat → Bool} {i : Nat} {l : MLine} (ha : l.a.toNat < N) (hb : l.b.toNat < N) : cutN N (lineT F c i l) S = cutN N c S + lineC F S i l := by
  unfold lineT lineC
  rcases lineOn F i l
  · simp [ind]
  · rw [if_pos rfl]
    rcases l.one
    · rw [if_neg (by decide), cut_addT hb ha, cut_addT ha hb]
      simp only [Bool.true_and, Bool.not_false]
      omega
    · rw [if_pos rfl, cut_addT ha hb]
      simp [ind]
theorem cut_linesT {N : Nat} {F : List MFault} {ls : List MLine} {c : Tab} {S : Nat → Bool} (h : ∀ l ∈ ls, l.a.toNat < N ∧ l.b.toNat < N) : ∀ k, k ≤ ls.length → cutN N (linesT F ls c k) S = cutN N c S + sumN (fun i => lineC F S i (ls.getD i dLine)) k
  | 0, _ => by rw [linesT, sumN, Int.add_zero]
  | k + 1, hk => by
    have hm : ls.getD k dLine ∈ ls := by
      rw [List.getD_eq_getElem?_getD, List.getElem?_eq_getElem (by omega)]
      exact List.getElem_mem _
    rw [linesT, sumN, cut_lineT (h _ hm).1 (h _ hm).2, cut_linesT h k (by omega)]
    omega
theorem cut_srcsT {N b : Nat} {F : List MFault} {ss : List MSrc} {c : Tab} {S : Nat → Bool} (hb : b < N) (hS : S b = true) (h : ∀ s ∈ ss, s.node.toNat < N) : ∀ k, k ≤ ss.length → cutN N (srcsT F b ss c k) S = cutN N c S + sumN (fun i => srcC F S i (ss.getD i dSrc)) k
  | 0, _ => by rw [srcsT, sumN, Int.add_zero]
  | k + 1, hk => by
    have hm : ss.getD k dSrc ∈ ss := by
      rw [List.getD_eq_getElem?_getD, List.getElem?_eq_getElem (by omega)]
      exact List.getElem_mem _
    rw [srcsT, sumN, ← Int.add_assoc, ← cut_srcsT hb hS h k (by omega)]
    unfold srcT srcC
    rcases srcOn F k (ss.getD k dSrc)
    · simp [ind]
    · rw [if_pos rfl, cut_addT hb (h _ hm), hS]
theorem cut_usersT {N e : Nat} {F : List MFault} {us : List MUser} {want : List Int} {c : Tab} {S : Nat → Bool} (he : e < N) (hS : S e = false) (h : ∀ u ∈ us, u.node.toNat < N) (hw : ∀ x ∈ want, x.toNat < us.length) : ∀ k, k ≤ want.length → cutN N (usersT F e us want c k) S = cutN N c S + sumN (fun i => userC F S (us.getD (want.getD i 0).toNat dUser)) k
  | 0, _ => by rw [usersT, sumN, Int.add_zero]
  | k + 1, hk => by
    have hm : want.getD k 0 ∈ want := by
      rw [List.getD_eq_getElem?_getD, List.getElem?_eq_getElem (by omega)]
      exact List.getElem_mem _
    have hx := hw _ hm
    have hu : us.getD (want.getD k 0).toNat dUser ∈ us := by
      rw [List.getD_eq_getElem?_getD, List.getElem?_eq_getElem hx]
      exact List.getElem_mem _
    rw [usersT, sumN, ← Int.add_assoc, ← cut_usersT he hS h hw k (by omega)]
    unfold userT userC
    rcases lostB F 3 (us.getD (want.getD k 0).toNat dUser).node
    · rw [if_neg (by decide), cut_addT (h _ hu) he, hS, Bool.not_false, Bool.and_true, Bool.true_and]
    · rw [if_pos rfl]
      simp [ind]
theorem cut_zeroT (N : Nat) (S : Nat → Bool) : cutN N zeroT S = 0 := cut_zero fun _ _ _ _ _ _ => rfl
/-- numbers of users -/
def WantOk (g : MGrid) (want : List Int) : Prop := ∀ x ∈ want, 0 ≤ x ∧ x < g.users.length
section
variable {g : MGrid} {n N b e : Nat} {F : List MFault} {want : List Int} {S : Nat → Bool}
theorem cut_ourT (hg : GridOk g n) (hw : WantOk g want) (hn : n ≤ N) (hb : b < N) (he : e < N) (hSb : S b = true) (hSe : S e = false) : cutN N (ourT g F want b e) S = cutG g F want S := by
  unfold ourT cutG
  rw [cut_usersT he hSe (fun u hu => by have := (hg.user u hu).1; omega) (fun x hx => by have := hw x hx; omega) _ (Nat.le_refl _), cut_srcsT hb hSb (fun s hs => by have := (hg.src s hs).1; omega) _ (Nat.le_refl _),
    cut_linesT (fun l hl => by have := hg.line l hl; omega) _ (Nat.le_refl _), cut_zeroT]
  omega
theorem cut_refT (hg : GridOk g n) (hw : WantOk g want) (hn : n ≤ N) (hb : b < N) (he : e < N) (hSb : S b = true) (hSe : S e = false) : cutN N (refT g F want b e) S = cutG g F want S := by
  unfold refT cutG
  rw [cut_usersT he hSe (fun u hu => by have := (hg.user u hu).1; omega) (fun x hx => by have := hw x hx; omega) _ (Nat.le_refl _), cut_linesT (fun l hl => by have := hg.line l hl; omega) _ (Nat.le_refl _),
    cut_srcsT hb hSb (fun s hs => by have := (hg.src s hs).1; omega) _ (Nat.le_refl _), cut_zeroT]
  omega
theorem cutG_congr (hg : GridOk g n) (hw : WantOk g want) {S' : Nat → Bool} (h : ∀ x, x < n → S x = S' x) : cutG g F want S = cutG g F want S' := by
  have m1 : ∀ i, i < g.lines.length → g.lines.getD i dLine ∈ g.lines := fun i hi => by
    rw [List.getD_eq_getElem?_getD, List.getElem?_eq_getElem hi]; exact List.getElem_mem _
  have m2 : ∀ i, i < g.srcs.length → g.srcs.getD i dSrc ∈ g.srcs := fun i hi => by
    rw [List.getD_eq_getElem?_getD, List.getElem?_eq_getElem hi]; exact List.getElem_mem _
  have m3 : ∀ i, i < want.length → g.users.getD (want.getD i 0).toNat dUser ∈ g.users := fun i hi => by
    have hm : want.getD i 0 ∈ want := by
      rw [List.getD_eq_getElem?_getD, List.getElem?_eq_getElem hi]; exact List.getElem_mem _
    have := hw _ hm
    rw [List.getD_eq_getElem?_getD, List.getElem?_eq_getElem (show (want.getD i 0).toNat < g.users.length by omega)]; exact List.getElem_mem _
  unfold cutG
  rw [sumN_congr (f := fun i => lineC F S i (g.lines.getD i dLine)) (g := fun i => lineC F S' i (g.lines.getD i dLine)) fun i hi => by
      have := hg.line _ (m1 i hi)
      unfold lineC
      rw [h _ (show (g.lines.getD i dLine).a.toNat < n by omega), h _ (show (g.lines.getD i dLine).b.toNat < n by omega)],
    sumN_congr (f := fun i => srcC F S i (g.srcs.getD i dSrc)) (g := fun i => srcC F S' i (g.srcs.getD i dSrc)) fun i hi => by
      have := (hg.src _ (m2 i hi)).1
      unfold srcC
      rw [h _ (show (g.srcs.getD i dSrc).node.toNat < n by omega)],
    sumN_congr (f := fun i => userC F S (g.users.getD (want.getD i 0).toNat dUser)) (g := fun i => userC F S' (g.users.getD (want.getD i 0).toNat dUser)) fun i hi => by
      have := (hg.user _ (m3 i hi)).1
      unfold userC
      rw [h _ (show (g.users.getD (want.getD i 0).toNat dUser).node.toNat < n by omega)]]
/-- the greatest power that can be taken, and the least set that shows it -/
structure MostG (g : MGrid) (F : List MFault) (want : List Int) (n : Nat) (sum : Int) (R : Nat → Bool) : Prop where
  is : cutG g F want R = sum
  le : ∀ S : Nat → Bool, sum ≤ cutG g F want S
  least : ∀ S : Nat → Bool, cutG g F want S = sum → ∀ x, x < n → R x = true → S x = true
theorem Most.grid {T : Tab} {sum : Int} {R : Nat → Bool} (h : Most N T b e sum R) (hT : ∀ S : Nat → Bool, S b = true → S e = false → cutN N T S = cutG g F want S) (hg : GridOk g n) (hw : WantOk g want) (hn : n ≤ N) (hb : n ≤ b) (he : n ≤ e) (hbe : b ≠ e) : MostG g F want n sum R := by
  have hx : ∀ S : Nat → Bool, (fun x => if x < n then S x else decide (x = b)) b = true ∧ (fun x => if x < n then S x else decide (x = b)) e = false := fun S => by
    constructor
    · simp [show ¬ b < n by omega]
    · simp [show ¬ e < n by omega, Ne.symm hbe]
  have hc : ∀ S : Nat → Bool, cutN N T (fun x => if x < n then S x else decide (x = b)) = cutG g F want S := fun S => by
    rw [hT _ (hx S).1 (hx S).2]
    exact cutG_congr hg hw fun x hx => by simp [hx]
  refine ⟨by rw [← hT R h.src h.snk]; exact h.is, fun S => by have := h.le (fun x => if x < n then S x else decide (x = b)) (hx S).1 (hx S).2; rw [hc S] at this; exact this, fun S hS x hxn hr => ?_⟩
  have := h.least (fun x => if x < n then S x else decide (x = b)) (hx S).1 (hx S).2 (by rw [hc S]; exact hS) x (by omega) hr
  simpa [hxn] using this
theorem MostG.same {sum sum' : Int} {R R' : Nat → Bool} (h : MostG g F want n sum R) (h' : MostG g F want n sum' R') : sum = sum' ∧ ∀ x, x < n → R x = R' x := by
  have e : sum = sum' := Int.le_antisymm (by have := h.le R'; rw [h'.is] at this; exact this) (by have := h'.le R; rw [h.is] at this; exact this)
  subst e
  refine ⟨rfl, fun x hx => ?_⟩
  rw [Bool.eq_iff_iff]
  exact ⟨h.least R' h'.is x hx, h'.least R h.is x hx⟩
end
end Go.Proofs.Ytegclodchhcbaaa
