/- Plain: by how much a user can grow. -/
import Derived.Test.YtegclodchhcbaaaPf
import Derived.Test.YtegclodchhcbaaaUs
namespace Go.Proofs.Ytegclodchhcbaaa

def grown (g : MGrid) (u : Nat) (m : Int) : MGrid := { g with users := g.users.set u { g.users.getD u dUser with power := (g.users.getD u dUser).power + m } }
theorem grown_user {g : MGrid} {u j : Nat} {m : Int} (hu : u < g.users.length) : (grown g u m).users.getD j dUser = if j = u then { g.users.getD u dUser with power := (g.users.getD u dUser).power + m } else g.users.getD j dUser := by
  unfold grown
  simp only [List.getD_eq_getElem?_getD, List.getElem?_set]
  by_cases h : j = u
  · subst h
    rw [if_pos rfl, if_pos rfl, if_pos hu]
    rfl
  · rw [if_neg (fun e => h e.symm), if_neg h]
theorem grown_len (g : MGrid) (u : Nat) (m : Int) : (grown g u m).users.length = g.users.length := by unfold grown; simp
def dueS (g : MGrid) (S : Nat → Bool) : Int := ((allL g.users.length).map (dueU g [] S)).sum
theorem dueS_sum (g : MGrid) (S : Nat → Bool) : dueS g S = sumN (fun i => dueU g [] S (i : Int)) g.users.length := by
  unfold dueS
  rw [← sumN_list, allL_len]
  exact sumN_congr fun k hk => by rw [allL_at hk]
theorem grown_due {g : MGrid} {u : Nat} {m : Int} (hu : u < g.users.length) (S : Nat → Bool) : dueS (grown g u m) S = dueS g S + if S (g.users.getD u dUser).node.toNat = true then 0 else m := by
  rw [dueS_sum, dueS_sum, grown_len]
  rw [sumN_upd (f := fun i => dueU g [] S (i : Int)) (g := fun i => dueU (grown g u m) [] S (i : Int)) (j := u) hu fun k _ hk => by
    unfold dueU userAt
    rw [Int.toNat_natCast, grown_user hu, if_neg hk]]
  have e : dueU (grown g u m) [] S (u : Int) - dueU g [] S (u : Int) = if S (g.users.getD u dUser).node.toNat = true then 0 else m := by
    unfold dueU userAt
    rw [Int.toNat_natCast, grown_user hu, if_pos rfl]
    unfold userC ind
    have h0 : ∀ k n, lostB [] k n = false := fun _ _ => rfl
    simp only [h0, Bool.not_false, Bool.true_and]
    split <;> omega
  omega
theorem grown_base (g : MGrid) (u : Nat) (m : Int) (S : Nat → Bool) : baseC (grown g u m) [] S = baseC g [] S := rfl
theorem carG_due (g : MGrid) : carG g [] (allL g.users.length) ↔ ∀ S, dueS g S ≤ baseC g [] S := Iff.rfl
theorem grown_car {g : MGrid} {u : Nat} {m : Int} (hu : u < g.users.length) (hc : carG g [] (allL g.users.length)) : carG (grown g u m) [] (allL g.users.length) ↔ ∀ S : Nat → Bool, S (g.users.getD u dUser).node.toNat = false → dueS g S + m ≤ baseC g [] S := by
  have h1 := carG_due (grown g u m)
  rw [grown_len] at h1
  rw [h1]
  constructor
  · intro h S hS
    have := h S
    rw [grown_due hu, grown_base, hS] at this
    simpa using this
  · intro h S
    rw [grown_due hu, grown_base]
    rcases e : S (g.users.getD u dUser).node.toNat
    · have := h S e
      simpa using this
    · have : dueS g S ≤ baseC g [] S := hc S
      simpa using this
theorem cut_due (g : MGrid) (S : Nat → Bool) : cutG g [] (allL g.users.length) S - powS g (allL g.users.length) = baseC g [] S - dueS g S := by
  rw [cutG_split]
  unfold dueS
  rw [show ((allL g.users.length).map (dueU g [] S)).sum = powS g (allL g.users.length) - ((allL g.users.length).map fun x => userC [] S (userAt g x)).sum from sum_sub _ _ _]
  omega
theorem base_none {g : MGrid} {n : Nat} (hg : GridOk g n) : baseC g [] (fun _ => false) ≤ 600000 := by
  unfold baseC
  rw [sumN_eq_zero (f := fun i => lineC [] (fun _ => false) i (g.lines.getD i dLine)) fun i _ => by unfold lineC ind; simp]
  have h1 : sumN (fun i => srcC [] (fun _ => false) i (g.srcs.getD i dSrc)) g.srcs.length ≤ sumN (fun _ => 100000) g.srcs.length := sumN_le fun k hk => by
    have := (hg.src _ (getD_in hk dSrc)).2
    have h3 := ind_le (p := srcOn [] k (g.srcs.getD k dSrc) && !false) this.1
    show ind (srcOn [] k (g.srcs.getD k dSrc) && !false) _ ≤ _
    omega
  have h2 : ∀ k : Nat, sumN (fun _ => (100000 : Int)) k = k * 100000 := fun k => by
    induction k with
    | zero => rfl
    | succ k ih => rw [sumN, ih]; push_cast; omega
  have := hg.ns
  rw [h2] at h1
  omega
theorem due_none {g : MGrid} {n : Nat} (hg : GridOk g n) (S : Nat → Bool) : 0 ≤ dueS g S := by
  rw [dueS_sum]
  exact sumN_nn fun k _ => due_nn hg [] S k
/-- what is left, with the users' places turned to one node -/
def spareT (c : Tab) (x : Nat) : Tab := fun i k => if k = 21 then (if i = x then 600000 else 0) else c i k
theorem spare_ok {g : MGrid} {n : Nat} (hg : GridOk g n) {u : Nat} (hu : u < g.users.length) {T c' : Tab} {sum2 : Int} {R2 : Nat → Bool}
    (hT : ∀ S : Nat → Bool, S 20 = true → S 21 = false → cutN 22 T S = cutG g [] (allL g.users.length) S) (hc : carG g [] (allL g.users.length)) (hL : LeftF 22 T 20 21 c' (powS g (allL g.users.length)))
    (hM : Most 22 (spareT c' (g.users.getD u dUser).node.toNat) 20 21 sum2 R2) : (0 ≤ sum2 ∧ sum2 ≤ 600000) ∧ ∀ m : Int, carG (grown g u m) [] (allL g.users.length) ↔ m ≤ sum2 := by
  have hf := hg.few
  have hun := (hg.user _ (getD_in hu dUser)).1
  have hw : WantOk g (allL g.users.length) := fun x hx => by have := allL_mem.1 hx; omega
  obtain ⟨x, hx⟩ : ∃ x, (g.users.getD u dUser).node.toNat = x := ⟨_, rfl⟩
  rw [hx] at hM
  have hxn : x < n := by omega
  have hcol : ∀ i, i < 22 → i ≠ 21 → c' i 21 = 0 := fun i hi hne => by
    have s1 : (fun z : Nat => decide (z ≠ 21)) 20 = true := by decide
    have s2 : (fun z : Nat => decide (z ≠ 21)) 21 = false := by decide
    have h1 := hL.cut (fun z : Nat => decide (z ≠ 21)) s1 s2
    rw [hT (fun z : Nat => decide (z ≠ 21)) s1 s2] at h1
    have h2 : cutG g [] (allL g.users.length) (fun z => decide (z ≠ 21)) = cutG g [] (allL g.users.length) (fun _ => true) := cutG_congr hg hw fun y hy => by simp; omega
    have h3 := cut_top hg [] (allL g.users.length)
    have h4 := cut_nn (N := 22) hL.nn (fun z => decide (z ≠ 21))
    exact zero_cut (S := fun z : Nat => decide (z ≠ 21)) hL.nn (by omega) hi (by decide) (by simpa using hne) (by decide)
  have hcut : ∀ S : Nat → Bool, S 20 = true → S 21 = false → cutN 22 (spareT c' x) S = baseC g [] S - dueS g S + if S x = true then 600000 else 0 := fun S s1 s2 => by
    have e1 : cutN 22 (spareT c' x) S = cutN 22 (upd c' x 21 600000) S := by
      unfold cutN
      refine sumN_congr fun i hi => sumN_congr fun k hk => ?_
      unfold edge
      by_cases h : S i = true ∧ S k = false
      · rw [if_pos h, if_pos h]
        unfold spareT upd
        by_cases hk21 : k = 21
        · subst hk21
          by_cases hix : i = x
          · simp [hix]
          · rw [if_pos rfl, if_neg hix, if_neg (fun h => hix h.1), hcol i hi (fun e => by rw [e, s2] at h; cases h.1)]
        · rw [if_neg hk21, if_neg (fun h => hk21 h.2)]
      · rw [if_neg h, if_neg h]
    rw [e1, cut_upd (by omega) (by decide), hL.cut S s1 s2, hT S s1 s2, hcol x (by omega) (by omega), ← cut_due]
    rcases S x <;> simp [s2]
  have hlift : ∀ S : Nat → Bool, ∃ S' : Nat → Bool, S' 20 = true ∧ S' 21 = false ∧ S' x = S x ∧ baseC g [] S' - dueS g S' = baseC g [] S - dueS g S := fun S => by
    refine ⟨fun z => if z < n then S z else decide (z = 20), by simp; omega, by simp; omega, by simp [hxn], ?_⟩
    rw [← cut_due, ← cut_due]
    congr 1
    exact cutG_congr hg hw fun z hz => by simp [hz]
  have hle : ∀ S : Nat → Bool, S x = false → sum2 ≤ baseC g [] S - dueS g S := fun S hS => by
    obtain ⟨S', s1, s2, s3, s4⟩ := hlift S
    have := hM.le S' s1 s2
    rw [hcut S' s1 s2, s3, hS, s4] at this
    simpa using this
  have his := hM.is
  rw [hcut R2 hM.src hM.snk] at his
  have hnn := hc R2
  have hnn' : dueS g R2 ≤ baseC g [] R2 := hnn
  have h0 := hle (fun _ => false) rfl
  have hb0 := base_none hg
  have hd0 := due_none hg (fun _ => false)
  refine ⟨⟨?_, by omega⟩, fun m => ?_⟩
  · split at his <;> omega
  · rw [grown_car hu hc, hx]
    constructor
    · intro h
      rcases e : R2 x
      · rw [e] at his
        have := h R2 e
        simp at his
        omega
      · rw [e] at his
        have := h (fun _ => false) rfl
        simp at his
        omega
    · intro h S hS
      have := hle S hS
      omega
theorem grown_ok {g : MGrid} {n u : Nat} (hg : GridOk g n) (hp : ∀ v ∈ g.users, v.power ≤ 100000) {m : Int} (hm : 0 ≤ m ∧ m ≤ 700000) (hu : u < g.users.length) : GridOk (grown g u m) n := by
  refine ⟨hg.nodes, hg.few, hg.nl, hg.ns, by rw [grown_len]; exact hg.nu, hg.line, hg.src, fun v hv => ?_⟩
  have hv' : v ∈ g.users.set u { g.users.getD u dUser with power := (g.users.getD u dUser).power + m } := hv
  rcases List.mem_or_eq_of_mem_set hv' with h | h
  · exact hg.user v h
  · have h1 := hg.user _ (getD_in hu dUser)
    have h2 := hp _ (getD_in hu dUser)
    rw [h]
    exact ⟨h1.1, ⟨by show 1 ≤ (g.users.getD u dUser).power + m; omega, by show (g.users.getD u dUser).power + m ≤ 1000000; omega⟩, h1.2.2⟩
end Go.Proofs.Ytegclodchhcbaaa
