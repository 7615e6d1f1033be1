/- Plain: who is carried together; in which order users are served; who is served. -/
import Derived.Test.YtegclodchhcbaaaPg
namespace Go.Proofs.Ytegclodchhcbaaa

def userAt (g : MGrid) (x : Int) : MUser := g.users.getD x.toNat dUser
def dueU (g : MGrid) (F : List MFault) (S : Nat → Bool) (x : Int) : Int := (userAt g x).power - userC F S (userAt g x)
def baseC (g : MGrid) (F : List MFault) (S : Nat → Bool) : Int := sumN (fun i => lineC F S i (g.lines.getD i dLine)) g.lines.length + sumN (fun i => srcC F S i (g.srcs.getD i dSrc)) g.srcs.length
theorem sumN_front (f : Nat → Int) : ∀ n, sumN f (n + 1) = f 0 + sumN (fun k => f (k + 1)) n
  | 0 => by simp [sumN]
  | n + 1 => by rw [sumN, sumN_front f n, sumN]; omega
theorem sumN_list (f : Int → Int) : ∀ l : List Int, sumN (fun i => f (l.getD i 0)) l.length = (l.map f).sum
  | [] => rfl
  | x :: r => by
    rw [List.length_cons, sumN_front, List.map_cons, List.sum_cons, ← sumN_list f r]
    rfl
theorem sum_perm {f : Int → Int} {l m : List Int} (h : l.Perm m) : (l.map f).sum = (m.map f).sum := by
  induction h with
  | nil => rfl
  | cons x _ ih => simp [ih]
  | swap x y l => simp; omega
  | trans _ _ h1 h2 => exact h1.trans h2
theorem sum_sub (f h : Int → Int) : ∀ l : List Int, (l.map fun x => f x - h x).sum = (l.map f).sum - (l.map h).sum
  | [] => rfl
  | x :: r => by simp only [List.map_cons, List.sum_cons, sum_sub f h r]; omega
theorem sum_le {f h : Int → Int} : ∀ {l : List Int}, (∀ x ∈ l, f x ≤ h x) → (l.map f).sum ≤ (l.map h).sum
  | [], _ => Int.le_refl _
  | x :: r, hh => by
    have h1 := hh x (List.mem_cons_self ..)
    have h2 := sum_le (l := r) fun y hy => hh y (List.mem_cons_of_mem _ hy)
    simp only [List.map_cons, List.sum_cons]
    omega
theorem cutG_split (g : MGrid) (F : List MFault) (want : List Int) (S : Nat → Bool) : cutG g F want S = baseC g F S + (want.map fun x => userC F S (userAt g x)).sum := by
  unfold cutG baseC
  rw [← sumN_list (fun x => userC F S (userAt g x)) want]
  rfl
def powS (g : MGrid) (want : List Int) : Int := (want.map fun x => (userAt g x).power).sum
/-- all bear it -/
def carG (g : MGrid) (F : List MFault) (want : List Int) : Prop := ∀ S : Nat → Bool, (want.map (dueU g F S)).sum ≤ baseC g F S
noncomputable def carB (g : MGrid) (F : List MFault) (want : List Int) : Bool := @decide (carG g F want) (Classical.propDecidable _)
theorem carB_iff {g : MGrid} {F : List MFault} {want : List Int} : carB g F want = true ↔ carG g F want := by
  unfold carB
  exact @decide_eq_true_iff _ (Classical.propDecidable _)
theorem carG_perm {g : MGrid} {F : List MFault} {want want' : List Int} (h : want.Perm want') : carG g F want ↔ carG g F want' := by
  unfold carG
  constructor <;> intro h1 S <;> have := h1 S
  · rw [← sum_perm h]; exact this
  · rw [sum_perm h]; exact this
theorem carB_perm {g : MGrid} {F : List MFault} {want want' : List Int} (h : want.Perm want') : carB g F want = carB g F want' := by
  rw [Bool.eq_iff_iff, carB_iff, carB_iff, carG_perm h]
theorem car_cut {g : MGrid} {F : List MFault} {want : List Int} : carG g F want ↔ ∀ S, powS g want ≤ cutG g F want S := by
  unfold carG
  refine forall_congr' fun S => ?_
  rw [cutG_split, show (want.map (dueU g F S)).sum = powS g want - (want.map fun x => userC F S (userAt g x)).sum from sum_sub _ _ _]
  omega
theorem ind_le {p : Bool} {v : Int} (h : 0 ≤ v) : 0 ≤ ind p v ∧ ind p v ≤ v := by unfold ind; split <;> omega
theorem userAt_nn {g : MGrid} {n : Nat} (hg : GridOk g n) (x : Int) : 0 ≤ (userAt g x).power := by
  unfold userAt
  rw [List.getD_eq_getElem?_getD]
  rcases h : g.users[x.toNat]? with _ | u
  · exact Int.le_refl 0
  · have := (hg.user u (List.mem_of_getElem? h)).2.1
    show 0 ≤ u.power
    omega
theorem due_nn {g : MGrid} {n : Nat} (hg : GridOk g n) (F : List MFault) (S : Nat → Bool) (x : Int) : 0 ≤ dueU g F S x := by
  have := ind_le (p := !lostB F 3 (userAt g x).node && S (userAt g x).node.toNat) (userAt_nn hg x)
  unfold dueU userC
  omega
theorem cut_top {g : MGrid} {n : Nat} (hg : GridOk g n) (F : List MFault) (want : List Int) : cutG g F want (fun _ => true) ≤ powS g want := by
  rw [cutG_split]
  have h1 : baseC g F (fun _ => true) = 0 := by
    unfold baseC
    rw [sumN_eq_zero (f := fun i => lineC F (fun _ => true) i (g.lines.getD i dLine)) fun i _ => by unfold lineC ind; simp, sumN_eq_zero (f := fun i => srcC F (fun _ => true) i (g.srcs.getD i dSrc)) fun i _ => by unfold srcC ind; simp]
    rfl
  have h2 : (want.map fun x => userC F (fun _ => true) (userAt g x)).sum ≤ powS g want := sum_le fun x _ => (ind_le (userAt_nn hg x)).2
  omega
theorem MostG.car {g : MGrid} {n : Nat} {F : List MFault} {want : List Int} {sum : Int} {R : Nat → Bool} (h : MostG g F want n sum R) (hg : GridOk g n) : sum = powS g want ↔ carG g F want := by
  rw [car_cut]
  constructor
  · rintro rfl S
    exact h.le S
  · intro hc
    have h1 := hc R
    rw [h.is] at h1
    have h2 := h.le (fun _ => true)
    have h3 := cut_top hg F want
    omega
theorem carG_part {g : MGrid} {n : Nat} (hg : GridOk g n) {F : List MFault} {l m : List Int} (h : carG g F (l ++ m)) : carG g F l := fun S => by
  have h1 := h S
  rw [List.map_append, List.sum_append] at h1
  have h2 : 0 ≤ (m.map (dueU g F S)).sum := by
    have := sum_le (f := fun _ => 0) (h := dueU g F S) (l := m) fun x _ => due_nn hg F S x
    have h0 : ∀ k : List Int, (k.map fun _ => (0 : Int)).sum = 0 := fun k => by induction k with
      | nil => rfl
      | cons y r ih => simp [ih]
    rw [h0] at this
    exact this
  omega

/-- the users of a level, of the first i -/
def rankI (g : MGrid) (lv : Int) : Nat → List Int
  | 0 => []
  | i + 1 => if (g.users.getD i dUser).level = lv then rankI g lv i ++ [(i : Int)] else rankI g lv i
/-- the order of Served, k levels of it -/
def rankL (g : MGrid) : Nat → List Int
  | 0 => []
  | k + 1 => rankL g k ++ rankI g (4 - k) g.users.length
def keyU (g : MGrid) (x : Int) : Int := (4 - (userAt g x).level) * 100 + x
def SortedK (g : MGrid) (l : List Int) : Prop := l.Pairwise fun x y => keyU g x < keyU g y
theorem rankI_mem {g : MGrid} {lv : Int} {x : Int} : ∀ {i : Nat}, x ∈ rankI g lv i ↔ (0 ≤ x ∧ x < i) ∧ (userAt g x).level = lv
  | 0 => by simp [rankI]; omega
  | i + 1 => by
    have ih := rankI_mem (g := g) (lv := lv) (x := x) (i := i)
    rw [rankI]
    by_cases h : (g.users.getD i dUser).level = lv
    · rw [if_pos h, List.mem_append, ih, List.mem_singleton]
      constructor
      · rintro (h1 | rfl)
        · omega
        · exact ⟨by omega, by unfold userAt; rw [Int.toNat_natCast]; exact h⟩
      · intro h1
        by_cases h2 : x < i
        · exact .inl ⟨⟨h1.1.1, h2⟩, h1.2⟩
        · exact .inr (by omega)
    · rw [if_neg h, ih]
      constructor
      · intro h1; omega
      · rintro ⟨h1, h2⟩
        refine ⟨⟨h1.1, ?_⟩, h2⟩
        rcases (show x < i ∨ i ≤ x by omega) with h3 | h3
        · exact h3
        · obtain rfl : x = i := by omega
          unfold userAt at h2
          rw [Int.toNat_natCast] at h2
          exact absurd h2 h
theorem rankI_sorted {g : MGrid} {lv : Int} : ∀ {i : Nat}, SortedK g (rankI g lv i)
  | 0 => List.Pairwise.nil
  | i + 1 => by
    rw [rankI]
    split
    · rename_i h
      refine List.pairwise_append.2 ⟨rankI_sorted, List.pairwise_singleton _ _, fun x hx y hy => ?_⟩
      rw [List.mem_singleton] at hy
      subst hy
      obtain ⟨h1, h2⟩ := rankI_mem.1 hx
      have h3 : (userAt g i).level = lv := by unfold userAt; rw [Int.toNat_natCast]; exact h
      unfold keyU
      rw [h2, h3]
      omega
    · exact rankI_sorted
theorem rankL_mem {g : MGrid} {x : Int} : ∀ {k : Nat}, x ∈ rankL g k ↔ (0 ≤ x ∧ x < g.users.length) ∧ (4 - (userAt g x).level < k ∧ (userAt g x).level ≤ 4)
  | 0 => by simp [rankL]; omega
  | k + 1 => by
    rw [rankL, List.mem_append, rankL_mem (k := k), rankI_mem]
    push_cast
    omega
theorem rankL_sorted {g : MGrid} (hn : g.users.length ≤ 100) : ∀ {k : Nat}, SortedK g (rankL g k)
  | 0 => List.Pairwise.nil
  | k + 1 => by
    rw [rankL]
    refine List.pairwise_append.2 ⟨rankL_sorted hn, rankI_sorted, fun x hx y hy => ?_⟩
    have h1 := rankL_mem.1 hx
    have h2 := rankI_mem.1 hy
    unfold keyU
    omega
theorem sortedK_unique {g : MGrid} : ∀ {l m : List Int}, SortedK g l → SortedK g m → (∀ x, x ∈ l ↔ x ∈ m) → l = m
  | [], [], _, _, _ => rfl
  | [], y :: r, _, _, h => by have := (h y).2 (List.mem_cons_self ..); cases this
  | x :: r, [], _, _, h => by have := (h x).1 (List.mem_cons_self ..); cases this
  | x :: r, y :: s, hl, hm, h => by
    obtain ⟨l1, l2⟩ := List.pairwise_cons.1 hl
    obtain ⟨m1, m2⟩ := List.pairwise_cons.1 hm
    have e : x = y := by
      rcases List.mem_cons.1 ((h x).1 (List.mem_cons_self ..)) with e | e
      · exact e
      · rcases List.mem_cons.1 ((h y).2 (List.mem_cons_self ..)) with e' | e'
        · exact e'.symm
        · have a := m1 x e
          have b := l1 y e'
          omega
    subst e
    have : r = s := sortedK_unique l2 m2 fun z => by
      have hz := h z
      rw [List.mem_cons, List.mem_cons] at hz
      constructor
      · intro hr
        have hlt := l1 z hr
        rcases hz.1 (.inr hr) with e | e
        · rw [e] at hlt; omega
        · exact e
      · intro hr
        have hlt := m1 z hr
        rcases hz.2 (.inr hr) with e | e
        · rw [e] at hlt; omega
        · exact e
    rw [this]
/-- the order of Served -/
def rankO (g : MGrid) : List Int := rankL g 5
theorem rankO_of {g : MGrid} {n : Nat} (hg : GridOk g n) {l : List Int} (hs : SortedK g l) (hm : ∀ x, x ∈ l ↔ 0 ≤ x ∧ x < g.users.length) : l = rankO g := by
  refine sortedK_unique hs (rankL_sorted (by have := hg.nu; omega)) fun x => ?_
  unfold rankO
  rw [hm, rankL_mem]
  constructor
  · intro h
    refine ⟨h, ?_⟩
    have hu := hg.user (userAt g x) (by
      unfold userAt
      rw [List.getD_eq_getElem?_getD, List.getElem?_eq_getElem (show x.toNat < g.users.length by omega)]
      exact List.getElem_mem _)
    omega
  · exact fun h => h.1
theorem rankO_mem {g : MGrid} {n : Nat} (hg : GridOk g n) (x : Int) : x ∈ rankO g ↔ 0 ≤ x ∧ x < g.users.length := by
  unfold rankO
  rw [rankL_mem]
  constructor
  · exact fun h => h.1
  · intro h
    refine ⟨h, ?_⟩
    have hu := hg.user (userAt g x) (by
      unfold userAt
      rw [List.getD_eq_getElem?_getD, List.getElem?_eq_getElem (show x.toNat < g.users.length by omega)]
      exact List.getElem_mem _)
    omega
theorem nodup_key {g : MGrid} {l : List Int} (h : SortedK g l) : l.Nodup := List.Pairwise.imp (fun {a b} hab e => by subst e; omega) h
theorem nodup_len : ∀ {n : Nat} {l : List Int}, l.Nodup → (∀ x ∈ l, 0 ≤ x ∧ x < n) → l.length ≤ n
  | 0, l, _, h => by
    rcases l with _ | ⟨x, r⟩
    · exact Nat.le_refl _
    · have := h x (List.mem_cons_self ..); omega
  | n + 1, l, hd, h => by
    by_cases hm : (n : Int) ∈ l
    · have h1 := nodup_len (n := n) (l := l.erase n) (hd.erase _) fun x hx => by
        have hx1 := (List.Nodup.mem_erase_iff hd).1 hx
        have := h x hx1.2
        have := hx1.1
        omega
      have h2 := List.length_erase_of_mem hm
      omega
    · have := nodup_len (n := n) hd fun x hx => by
        have := h x hx
        have : x ≠ n := fun e => hm (e ▸ hx)
        omega
      omega
theorem rankO_len {g : MGrid} {n : Nat} (hg : GridOk g n) : (rankO g).length ≤ g.users.length :=
  nodup_len (nodup_key (rankL_sorted (by have := hg.nu; omega))) fun x hx => (rankO_mem hg x).1 hx
/-- who is served of the first k of an order -/
noncomputable def haveG (g : MGrid) (F : List MFault) (O : List Int) : Nat → List Int
  | 0 => []
  | k + 1 => if carB g F (haveG g F O k ++ [O.getD k 0]) = true then haveG g F O k ++ [O.getD k 0] else haveG g F O k
theorem haveG_sub {g : MGrid} {F : List MFault} {O : List Int} : ∀ {k : Nat}, k ≤ O.length → (haveG g F O k).Sublist (O.take k)
  | 0, _ => by simp [haveG]
  | k + 1, hk => by
    have ih := haveG_sub (g := g) (F := F) (O := O) (k := k) (by omega)
    rw [List.take_add_one, List.getElem?_eq_getElem (by omega), haveG]
    have e : O.getD k 0 = O[k]'(by omega) := by rw [List.getD_eq_getElem?_getD, List.getElem?_eq_getElem (by omega)]; rfl
    split
    · rw [e]
      exact ih.append (List.Sublist.refl _)
    · exact ih.trans (List.sublist_append_left _ _)
theorem haveG_car {g : MGrid} {F : List MFault} {O : List Int} (h0 : carG g F []) : ∀ {k : Nat}, carG g F (haveG g F O k)
  | 0 => h0
  | k + 1 => by
    rw [haveG]
    split
    · rename_i h; exact carB_iff.1 h
    · exact haveG_car h0
theorem carG_nil {g : MGrid} {n : Nat} (hg : GridOk g n) (F : List MFault) : carG g F [] := fun S => by
  have h1 : 0 ≤ sumN (fun i => lineC F S i (g.lines.getD i dLine)) g.lines.length := sumN_nn fun i hi => by
    have hm : g.lines.getD i dLine ∈ g.lines := by
      rw [List.getD_eq_getElem?_getD, List.getElem?_eq_getElem hi]; exact List.getElem_mem _
    have hl := (hg.line _ hm).2.2.2.1
    unfold lineC
    have := (ind_le (p := lineOn F i (g.lines.getD i dLine) && (S (g.lines.getD i dLine).a.toNat && !S (g.lines.getD i dLine).b.toNat)) hl).1
    have := (ind_le (p := lineOn F i (g.lines.getD i dLine) && (!(g.lines.getD i dLine).one && (S (g.lines.getD i dLine).b.toNat && !S (g.lines.getD i dLine).a.toNat))) hl).1
    omega
  have h2 : 0 ≤ sumN (fun i => srcC F S i (g.srcs.getD i dSrc)) g.srcs.length := sumN_nn fun i hi => by
    have hm : g.srcs.getD i dSrc ∈ g.srcs := by
      rw [List.getD_eq_getElem?_getD, List.getElem?_eq_getElem hi]; exact List.getElem_mem _
    exact (ind_le (hg.src _ hm).2.1).1
  simp only [List.map_nil, List.sum_nil]
  unfold baseC
  omega
/-- who is served -/
noncomputable def servedG (g : MGrid) (F : List MFault) : List Int := haveG g F (rankO g) (rankO g).length
end Go.Proofs.Ytegclodchhcbaaa
