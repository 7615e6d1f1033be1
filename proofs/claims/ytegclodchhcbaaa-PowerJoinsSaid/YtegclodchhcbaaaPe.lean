/- Plain: the errors of faults and of wanted users. -/
import Derived.Test.YtegclodchhcbaaaGm
namespace Go.Proofs.Ytegclodchhcbaaa

def numK (g : MGrid) (kind : Int) : Int := if kind = 1 then g.srcs.length else if kind = 2 then g.lines.length else g.nodes
def faultOk (g : MGrid) (F : List MFault) (i : Nat) : Bool :=
  inB (F.getD i dFault).kind 1 3 && (inB (F.getD i dFault).number 0 (numK g (F.getD i dFault).kind - 1) && !lostB (F.take i) (F.getD i dFault).kind (F.getD i dFault).number)
def checkF (g : MGrid) (F : List MFault) : Int := if 10 < F.length then 2 else if (List.range F.length).all (faultOk g F) = true then 0 else 82
def prevW (want : List Int) (k : Nat) : Int := if k = 0 then -1 else want.getD (k - 1) 0
def wantB (g : MGrid) (want : List Int) (k : Nat) : Bool := decide (prevW want k < want.getD k 0) && decide (want.getD k 0 < g.users.length)
def checkW (g : MGrid) (want : List Int) : Int := if (List.range want.length).all (wantB g want) = true then 0 else 1
def checkGF (g : MGrid) (F : List MFault) : Int := if checkG g = 0 then checkF g F else checkG g
def checkA (g : MGrid) (F : List MFault) (want : List Int) : Int := if checkGF g F = 0 then checkW g want else checkGF g F
theorem rng_no {n k : Nat} {p : Nat → Bool} (hk : k < n) (h : p k = false) : ¬ (List.range n).all p = true := by
  rw [Bool.not_eq_true, List.all_eq_false]
  exact ⟨k, List.mem_range.2 hk, by rw [h]; decide⟩
theorem rng_yes {n : Nat} {p : Nat → Bool} (h : ∀ k, k < n → p k = true) : (List.range n).all p = true := by
  rw [List.all_eq_true]
  exact fun k hk => h k (List.mem_range.1 hk)
theorem rng_at {n : Nat} {p : Nat → Bool} (h : (List.range n).all p = true) {k : Nat} (hk : k < n) : p k = true := List.all_eq_true.1 h k (List.mem_range.2 hk)
section
variable {g : MGrid} {F : List MFault} {want : List Int} {k : Nat}
theorem checkF_2 (h : 10 < F.length) : checkF g F = 2 := by unfold checkF; rw [if_pos h]
theorem checkF_82 (h : ¬ 10 < F.length) (hk : k < F.length) (hb : faultOk g F k = false) : checkF g F = 82 := by unfold checkF; rw [if_neg h, if_neg (rng_no hk hb)]
theorem checkF_0 (h : ¬ 10 < F.length) (hb : ∀ k, k < F.length → faultOk g F k = true) : checkF g F = 0 := by unfold checkF; rw [if_neg h, if_pos (rng_yes hb)]
theorem checkW_1 (hk : k < want.length) (hb : wantB g want k = false) : checkW g want = 1 := by unfold checkW; rw [if_neg (rng_no hk hb)]
theorem checkW_0 (hb : ∀ k, k < want.length → wantB g want k = true) : checkW g want = 0 := by unfold checkW; rw [if_pos (rng_yes hb)]
theorem want_at (h : ∀ j, j < want.length → wantB g want j = true) : ∀ k, k < want.length → (k : Int) ≤ want.getD k 0 ∧ want.getD k 0 < g.users.length
  | 0, hk => by
    have := h 0 hk
    unfold wantB prevW at this
    simp only [Bool.and_eq_true, decide_eq_true_eq, if_pos] at this
    omega
  | k + 1, hk => by
    have h1 := want_at h k (by omega)
    have := h (k + 1) hk
    unfold wantB prevW at this
    simp only [Bool.and_eq_true, decide_eq_true_eq, Nat.add_sub_cancel, Nat.succ_ne_zero, if_false] at this
    push_cast
    omega
theorem checkW_ok (h : checkW g want = 0) : WantOk g want ∧ want.length ≤ g.users.length := by
  have hb : ∀ j, j < want.length → wantB g want j = true := by
    unfold checkW at h
    split at h
    · rename_i h1
      exact fun j hj => rng_at h1 hj
    · exact absurd h (by decide)
  refine ⟨fun x hx => ?_, ?_⟩
  · obtain ⟨k, hk, rfl⟩ := List.mem_iff_getElem.1 hx
    have := want_at hb k hk
    rw [List.getD_eq_getElem?_getD, List.getElem?_eq_getElem hk] at this
    simp only [Option.getD_some] at this
    omega
  · rcases Nat.eq_zero_or_pos want.length with h0 | h0
    · omega
    · have := want_at hb (want.length - 1) (by omega)
      omega
theorem checkF_ok (h : checkF g F = 0) : F.length ≤ 10 := by
  unfold checkF at h
  split at h
  · exact absurd h (by decide)
  · omega
theorem checkGF_ok (h : checkGF g F = 0) : checkG g = 0 ∧ checkF g F = 0 := by
  unfold checkGF at h
  split at h
  · exact ⟨by assumption, h⟩
  · exact absurd h (by assumption)
theorem checkA_ok (h : checkA g F want = 0) : checkG g = 0 ∧ checkF g F = 0 ∧ checkW g want = 0 := by
  unfold checkA at h
  split at h
  · rename_i h1
    exact ⟨(checkGF_ok h1).1, (checkGF_ok h1).2, h⟩
  · exact absurd h (by assumption)
end
end Go.Proofs.Ytegclodchhcbaaa
