/- Plain: two grids in one: what it carries. -/
import Derived.Test.YtegclodchhcbaaaUs
namespace Go.Proofs.Ytegclodchhcbaaa

def shL (n : Int) (l : MLine) : MLine := ⟨l.a + n, l.b + n, l.limit, l.one⟩
def shS (n : Int) (s : MSrc) : MSrc := ⟨s.node + n, s.power⟩
def shU (n : Int) (u : MUser) : MUser := ⟨u.node + n, u.power, u.level⟩
/-- two grids and a line between them -/
def joinG (a b : MGrid) (ff tt : Int) (lim : Int) (one : Bool) : MGrid :=
  ⟨a.nodes + b.nodes, a.lines ++ b.lines.map (shL a.nodes) ++ [⟨ff, tt + a.nodes, lim, one⟩], a.srcs ++ b.srcs.map (shS a.nodes), a.users ++ b.users.map (shU a.nodes)⟩
/-- the first error of Join -/
def joinE (a b : MGrid) (ff tt : Int) (lim : Int) (one : Bool) : Int :=
  if checkG a ≠ 0 then checkG a else if checkG b ≠ 0 then checkG b else if (inB ff 0 (a.nodes - 1) && inB tt 0 (b.nodes - 1)) = false then 1 else checkG (joinG a b ff tt lim one)
theorem joinE_ok {a b : MGrid} {ff tt lim : Int} {one : Bool} (h : joinE a b ff tt lim one = 0) : checkG a = 0 ∧ checkG b = 0 ∧ (inB ff 0 (a.nodes - 1) = true ∧ inB tt 0 (b.nodes - 1) = true) ∧ checkG (joinG a b ff tt lim one) = 0 := by
  unfold joinE at h
  split at h
  · rename_i h1; exact absurd h h1
  · rename_i h1
    split at h
    · rename_i h2; exact absurd h h2
    · rename_i h2
      split at h
      · exact absurd h (by decide)
      · rename_i h3
        simp only [Bool.not_eq_false, Bool.and_eq_true] at h3
        exact ⟨by simpa using h1, by simpa using h2, h3, h⟩
def sumL {α : Type} (f : α → Int) (l : List α) : Int := (l.map f).foldr (· + ·) 0
theorem sumL_nil {α : Type} (f : α → Int) : sumL f [] = 0 := rfl
theorem sumL_cons {α : Type} (f : α → Int) (x : α) (l : List α) : sumL f (x :: l) = f x + sumL f l := rfl
theorem sumL_app {α : Type} (f : α → Int) : ∀ (l k : List α), sumL f (l ++ k) = sumL f l + sumL f k
  | [], k => by rw [List.nil_append, sumL_nil]; omega
  | x :: l, k => by rw [List.cons_append, sumL_cons, sumL_cons, sumL_app f l k]; omega
theorem sumL_map {α β : Type} (f : β → Int) (m : α → β) : ∀ l : List α, sumL f (l.map m) = sumL (fun x => f (m x)) l
  | [] => rfl
  | x :: l => by rw [List.map_cons, sumL_cons, sumL_cons, sumL_map f m l]
theorem sumL_congr {α : Type} {f g : α → Int} : ∀ {l : List α}, (∀ x ∈ l, f x = g x) → sumL f l = sumL g l
  | [], _ => rfl
  | x :: l, h => by rw [sumL_cons, sumL_cons, h x (by simp), sumL_congr fun y hy => h y (by simp [hy])]
theorem sumN_lst {α : Type} (f : α → Int) (d : α) (l : List α) : ∀ k, k ≤ l.length → sumN (fun i => f (l.getD i d)) k = sumL f (l.take k)
  | 0, _ => by rw [List.take_zero]; rfl
  | k + 1, hk => by
    rw [sumN, sumN_lst f d l k (by omega), List.take_add_one, List.getElem?_eq_getElem (show k < l.length by omega), Option.toList_some, sumL_app, sumL_cons, sumL_nil, List.getD_eq_getElem?_getD, List.getElem?_eq_getElem (show k < l.length by omega), Option.getD_some]
    omega
/-- the cut of a grid with nothing lost and all users wanted -/
def cutAll (g : MGrid) (S : Nat → Bool) : Int := sumL (lineC [] S 0) g.lines + sumL (srcC [] S 0) g.srcs + sumL (userC [] S) g.users
theorem cutAll_is (g : MGrid) (S : Nat → Bool) : cutG g [] (allL g.users.length) S = cutAll g S := by
  unfold cutG cutAll
  have h1 : sumN (fun i => lineC [] S i (g.lines.getD i dLine)) g.lines.length = sumL (lineC [] S 0) g.lines := by
    have := sumN_lst (lineC [] S 0) dLine g.lines _ (Nat.le_refl _)
    rw [List.take_length] at this
    exact this
  have h2 : sumN (fun i => srcC [] S i (g.srcs.getD i dSrc)) g.srcs.length = sumL (srcC [] S 0) g.srcs := by
    have := sumN_lst (srcC [] S 0) dSrc g.srcs _ (Nat.le_refl _)
    rw [List.take_length] at this
    exact this
  have h3 : sumN (fun i => userC [] S (g.users.getD ((allL g.users.length).getD i 0).toNat dUser)) (allL g.users.length).length = sumL (userC [] S) g.users := by
    rw [allL_len]
    have := sumN_lst (userC [] S) dUser g.users _ (Nat.le_refl _)
    rw [List.take_length] at this
    rw [← this]
    refine sumN_congr fun i hi => ?_
    rw [allL_at hi, Int.toNat_natCast]
  rw [h1, h2, h3]
section
variable {a b : MGrid} {na nb : Nat} {ff tt lim : Int} {one : Bool}
theorem cut_join (ha : GridOk a na) (hb : GridOk b nb) (S : Nat → Bool) : cutAll (joinG a b ff tt lim one) S = cutAll a S + cutAll b (fun x => S (x + na)) + lineC [] S 0 ⟨ff, tt + a.nodes, lim, one⟩ := by
  have hn := ha.nodes
  unfold cutAll joinG
  simp only [sumL_app, sumL_map, sumL_cons, sumL_nil]
  rw [sumL_congr (f := fun x => lineC [] S 0 (shL a.nodes x)) (g := lineC [] (fun x => S (x + na)) 0) fun l hl => by
      have := hb.line l hl
      have e1 : (l.a + (na : Int)).toNat = l.a.toNat + na := by omega
      have e2 : (l.b + (na : Int)).toNat = l.b.toNat + na := by omega
      unfold lineC shL
      rw [hn]
      dsimp only
      rw [e1, e2]
      rfl,
    sumL_congr (f := fun x => srcC [] S 0 (shS a.nodes x)) (g := srcC [] (fun x => S (x + na)) 0) fun s hs => by
      have := hb.src s hs
      have e1 : (s.node + (na : Int)).toNat = s.node.toNat + na := by omega
      unfold srcC shS
      rw [hn]
      dsimp only
      rw [e1]
      rfl,
    sumL_congr (f := fun x => userC [] S (shU a.nodes x)) (g := userC [] (fun x => S (x + na))) fun u hu => by
      have := hb.user u hu
      have e1 : (u.node + (na : Int)).toNat = u.node.toNat + na := by omega
      unfold userC shU
      rw [hn]
      dsimp only
      rw [e1]
      rfl]
  omega
theorem all_ok (g : MGrid) : WantOk g (allL g.users.length) := fun _ hx => allL_mem.1 hx
theorem line_nn {S : Nat → Bool} {l : MLine} (h : 0 ≤ l.limit) : 0 ≤ lineC [] S 0 l := by
  unfold lineC ind
  split <;> split <;> omega
theorem line_zero {S : Nat → Bool} {l : MLine} (h : l.limit = 0) : lineC [] S 0 l = 0 := by
  unfold lineC ind
  rw [h]
  split <;> split <;> rfl
/-- two grids in one carry what both carry, and just that along a line that carries nothing -/
theorem join_most (ha : GridOk a na) (hb : GridOk b nb) {n : Nat} {m k o : Int} {Ra Rb R : Nat → Bool} (hA : MostG a [] (allL a.users.length) na m Ra) (hB : MostG b [] (allL b.users.length) nb k Rb)
    (hG : MostG (joinG a b ff tt lim one) [] (allL (joinG a b ff tt lim one).users.length) n o R) (hl : 0 ≤ lim) : m + k ≤ o ∧ (lim = 0 → o = m + k) := by
  have h1 := hG.is
  rw [cutAll_is, cut_join ha hb] at h1
  have h2 := hA.le R
  have h3 := hB.le (fun x => R (x + na))
  rw [cutAll_is] at h2 h3
  have h4 : 0 ≤ lineC [] R 0 ⟨ff, tt + a.nodes, lim, one⟩ := line_nn hl
  refine ⟨by omega, fun hz => ?_⟩
  have h5 := hG.le (fun x => if x < na then Ra x else Rb (x - na))
  rw [cutAll_is, cut_join ha hb, line_zero (by exact hz)] at h5
  have h6 : cutAll a (fun x => if x < na then Ra x else Rb (x - na)) = m := by
    rw [← hA.is, ← cutAll_is]
    exact cutG_congr ha (all_ok a) fun _ hx => by rw [if_pos hx]
  have h7 : cutAll b (fun x => if x + na < na then Ra (x + na) else Rb (x + na - na)) = k := by
    rw [← hB.is, ← cutAll_is]
    exact cutG_congr hb (all_ok b) fun x _ => by rw [if_neg (by omega), Nat.add_sub_cancel]
  omega
end
end Go.Proofs.Ytegclodchhcbaaa
