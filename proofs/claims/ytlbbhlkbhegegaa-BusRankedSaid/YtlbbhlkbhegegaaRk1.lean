/- Walks: ignitionref04.late, of any frames; frames with other ranks. -/
import Derived.Test.YtlbbhlkbhegegaaR11
namespace Go.Proofs.Ytlbbhlkbhegegaa
open Go.RowKit

theorem rrespZ_bd {l : List MFrame} (hF : ∀ (k : Nat) (f : MFrame), l[k]? = some f → FOk f) {i : Nat} (hil : i < l.length) : -1 ≤ rrespZ l i ∧ rrespZ l i ≤ 2000000 := by
  have hi : l[i]? = some l[i] := List.getElem?_eq_getElem hil
  rw [rrespZ_of hi]
  rcases h1 : settleS (rbusyS l (rblockTo l l[i].rank l.length) l[i]) 1000002 1 with _ | b
  · show -1 ≤ (-1 : Int) ∧ (-1 : Int) ≤ 2000000
    omega
  · simp only
    rcases h2 : longTo l (higherB l l[i].rank) (rblockTo l l[i].rank l.length) l[i] ((b + l[i].jitter + l[i].every - 1) / l[i].every).toNat with _ | x
    · show -1 ≤ (-1 : Int) ∧ (-1 : Int) ≤ 2000000
      omega
    · have := longTo_bd (hF i _ hi) _ _ h2
      show -1 ≤ x ∧ x ≤ 2000000
      omega
def rlateB (l : List MFrame) (i : Nat) : Bool := decide (rrespZ l i < 0) || decide ((l.getD i ⟨0, 0, 0, 0, 0⟩).due < rrespZ l i)
theorem rlateB_of {l : List MFrame} {i : Nat} {f : MFrame} (h : l[i]? = some f) : rlateB l i = (decide (rrespZ l i < 0) || decide (f.due < rrespZ l i)) := by
  unfold rlateB; rw [List.getD_eq_getElem?_getD, h]; rfl
set_option maxRecDepth 100000 in
set_option maxHeartbeats 2000000 in
theorem rlate_gen (A : Option Addr) (cap : Nat) (l : List MFrame) (i : Nat) (w : World) (h : FramesA w w.heap.size A l) (hF : ∀ (k : Nat) (f : MFrame), l[k]? = some f → FOk f) (hl : l.length ≤ 40) (hil : i < l.length) {r : Bool} (hr : rlateB l i = r) :
    Calls Try.prog 69 #[.slice A l.length cap, .int .i64 i] w fun e w' => e = .returned (.bool r) ∧ Below w.heap.size w w' := by
  have hi : l[i]? = some l[i] := List.getElem?_eq_getElem hil
  have hxb := rrespZ_bd hF hil
  rw [rlateB_of hi] at hr
  have HFR : Hid (∀ w1, Below w.heap.size w w1 → ∃ b off, A = some ⟨b, off, none⟩ ∧ b < w.heap.size ∧ w1.cell? ⟨b, off + i * 5 + 3, none⟩ = some (.int .i64 l[i].due)) := fun w1 hb => by
    obtain ⟨b, off, hA, hlt, _, _, _, d3, _⟩ := (h.keep hb).sizeAt hi hil
    exact ⟨b, off, hA, hlt, d3⟩
  obtain ⟨x, hx⟩ : ∃ x, rrespZ l i = x := ⟨_, rfl⟩
  have HR := Lib.hid (rresponse_gen A cap l i l[i] w h hF hl hi hil hx)
  rw [hx] at hr hxb
  clear hx hi hF
  generalize l[i].due = d at *
  subst hr
  by_cases hneg : x < 0
  · have HE : Hid ((decide (x < 0) || decide (d < x)) = true) := by show _ = _; rw [decide_eq_true hneg]; rfl
    go_enter Try.func69, Try.ntmps69
    go_wp2_with (go_at_call 68; refine HR.out.mono ?_; rintro e w1 ⟨rfl, hb1⟩)
    go_ret
    exact ⟨ret_b HE.out.symm, hb1⟩
  · have HE : Hid ((decide (x < 0) || decide (d < x)) = decide (d < x)) := by show _ = _; rw [decide_eq_false hneg]; rfl
    go_enter Try.func69, Try.ntmps69
    go_wp2_with (go_at_call 68; refine HR.out.mono ?_; rintro e w1 ⟨rfl, hb1⟩; obtain ⟨b, off, rfl, hlt, d3⟩ := HFR.out _ hb1)
    go_ret
    exact ⟨by first | rfl | exact ret_b HE.out.symm, hb1⟩

/-! ### frames with other ranks -/
def rerank (f : MFrame) (r : Int) : MFrame := ⟨f.size, f.every, f.jitter, f.due, r⟩
def rankedL (l : List MFrame) (R : Nat → Int) : List MFrame := l.mapIdx fun k f => rerank f (R k)
theorem rankedL_len (l : List MFrame) (R : Nat → Int) : (rankedL l R).length = l.length := by unfold rankedL; simp
theorem rankedL_at {l : List MFrame} {R : Nat → Int} {k : Nat} {f : MFrame} (h : l[k]? = some f) : (rankedL l R)[k]? = some (rerank f (R k)) := by
  unfold rankedL; rw [List.getElem?_mapIdx, h]; rfl
theorem rankedL_ok {l : List MFrame} {R : Nat → Int} (hF : ∀ (k : Nat) (f : MFrame), l[k]? = some f → FOk f) (hR : ∀ k, k < l.length → -1 ≤ R k ∧ R k ≤ 1000) : ∀ (k : Nat) (f : MFrame), (rankedL l R)[k]? = some f → FOk f := fun k f hf => by
  have hk : k < l.length := by
    rcases Nat.lt_or_ge k l.length with h1 | h1
    · exact h1
    · rw [List.getElem?_eq_none (by rw [rankedL_len]; exact h1)] at hf; cases hf
  rw [rankedL_at (List.getElem?_eq_getElem hk)] at hf
  injection hf with hf
  subst hf
  have h1 := hF k _ (List.getElem?_eq_getElem hk)
  exact ⟨h1.1, h1.2.1, h1.2.2.1, h1.2.2.2.1, hR k hk⟩
theorem ranked_load {l : List MFrame} {R : Nat → Int} {ab ab' : Nat → Bool} {F : MFrame → Int} (hF : ∀ f r, F (rerank f r) = F f) (h : ∀ k, k < l.length → ab k = ab' k) : ∀ k, k ≤ l.length → loadTo (rankedL l R) ab F k = loadTo l ab' F k
  | 0, _ => rfl
  | k + 1, hk => by
    have hf : l[k]? = some l[k] := List.getElem?_eq_getElem (by omega)
    rw [loadTo_succ (rankedL_at (R := R) hf), loadTo_succ hf, ranked_load hF h k (by omega), hF, h k (by omega)]
    rfl
theorem ranked_block {l : List MFrame} {R : Nat → Int} {ab ab' : Nat → Bool} {i : Nat} (h : ∀ k, k < l.length → ab k = ab' k) : ∀ k, k ≤ l.length → blockTo (rankedL l R) ab i k = blockTo l ab' i k
  | 0, _ => rfl
  | k + 1, hk => by
    have hf : l[k]? = some l[k] := List.getElem?_eq_getElem (by omega)
    rw [blockTo_succ (rankedL_at (R := R) hf), blockTo_succ hf, ranked_block h k (by omega), h k (by omega)]
    rfl
/-- the frames above frame i, if those that have no rank yet are -/
def abR (R : Nat → Int) (i k : Nat) : Bool := decide (k ≠ i) && decide (R k < 0)
/-- as load_le: with ranks of which only frame i's is its own -/
theorem load_le' {l : List MFrame} {i : Nat} {own : MFrame} {F : MFrame → Int} (hi : l[i]? = some own) (hd : ∀ (k : Nat) (f : MFrame), l[k]? = some f → k ≠ i → f.rank ≠ own.rank) : ∀ k, k ≤ l.length → loadTo l (leB l own.rank) F k = loadTo l (higherB l own.rank) F k + if i < k then F own * own.size else 0
  | 0, _ => by simp [loadTo]
  | k + 1, hk => by
    have ih := load_le' (F := F) hi hd k (by omega)
    have hf : l[k]? = some l[k] := List.getElem?_eq_getElem (by omega)
    rw [loadTo_succ hf, loadTo_succ hf, ih, leB_of hf, higherB_of hf]
    by_cases e : k = i
    · subst e
      rw [hi] at hf
      injection hf with hf
      rw [← hf]
      simp
    · have hne := hd k _ hf e
      by_cases h1 : l[k].rank < own.rank
      · rw [decide_eq_true h1, decide_eq_true (p := l[k].rank ≤ own.rank) (by omega)]
        by_cases h2 : i < k
        · rw [if_pos h2, if_pos (by omega : i < k + 1)]; simp; omega
        · rw [if_neg h2, if_neg (by omega : ¬ i < k + 1)]; simp
      · rw [decide_eq_false h1, decide_eq_false (p := l[k].rank ≤ own.rank) (by omega)]
        by_cases h2 : i < k
        · rw [if_pos h2, if_pos (by omega : i < k + 1)]; simp
        · rw [if_neg h2, if_neg (by omega : ¬ i < k + 1)]; simp
theorem rblock_eq' {l : List MFrame} {i : Nat} {own : MFrame} (hi : l[i]? = some own) (hd : ∀ (k : Nat) (f : MFrame), l[k]? = some f → k ≠ i → f.rank ≠ own.rank) : ∀ k, k ≤ l.length → rblockTo l own.rank k = blockTo l (higherB l own.rank) i k
  | 0, _ => rfl
  | k + 1, hk => by
    have hf : l[k]? = some l[k] := List.getElem?_eq_getElem (by omega)
    rw [rblockTo_succ hf, blockTo_succ hf, rblock_eq' hi hd k (by omega), higherB_of hf]
    by_cases e : k = i
    · subst e
      rw [hi] at hf
      injection hf with hf
      rw [← hf]
      simp
    · have hne := hd k _ hf e
      by_cases h1 : l[k].rank < own.rank
      · rw [if_neg (by omega), if_neg (by rw [decide_eq_true h1]; simp)]
      · rw [if_pos (by omega), if_pos ⟨e, decide_eq_false h1⟩]
/-- the reference's response of a frame whose rank no other has is the program's -/
theorem rrespZ_respS {l : List MFrame} {i : Nat} {own : MFrame} (hi : l[i]? = some own) (hil : i < l.length) (hd : ∀ (k : Nat) (f : MFrame), l[k]? = some f → k ≠ i → f.rank ≠ own.rank) : rrespZ l i = (respS l (higherB l own.rank) i).getD (-1) := by
  have e : l.getD i ⟨0, 0, 0, 0, 0⟩ = own := by rw [List.getD_eq_getElem?_getD, hi]; rfl
  rw [rrespZ_of hi, rblock_eq' hi hd l.length (Nat.le_refl _)]
  have hb : rbusyS l (blockTo l (higherB l own.rank) i l.length) own = busyS l (higherB l own.rank) (blockTo l (higherB l own.rank) i l.length) own := by
    funext t
    unfold rbusyS busyS
    rw [load_le' hi hd l.length (Nat.le_refl _), if_pos hil]
    omega
  rw [hb]
  simp only [respS, e]
  rfl
/-- a response hangs on no rank but by what is above -/
theorem respS_ranked {l : List MFrame} {R : Nat → Int} {ab ab' : Nat → Bool} {i : Nat} (hil : i < l.length) (h : ∀ k, k < l.length → ab k = ab' k) : respS (rankedL l R) ab i = respS l ab' i := by
  have hi : l[i]? = some l[i] := List.getElem?_eq_getElem hil
  have e : l.getD i ⟨0, 0, 0, 0, 0⟩ = l[i] := by rw [List.getD_eq_getElem?_getD, hi]; rfl
  have e' : (rankedL l R).getD i ⟨0, 0, 0, 0, 0⟩ = rerank l[i] (R i) := by rw [List.getD_eq_getElem?_getD, rankedL_at hi]; rfl
  have hb : blockTo (rankedL l R) ab i (rankedL l R).length = blockTo l ab' i l.length := by rw [rankedL_len]; exact ranked_block h _ (Nat.le_refl _)
  have h1 : ∀ b, busyS (rankedL l R) ab b (rerank l[i] (R i)) = busyS l ab' b l[i] := fun b => by
    funext t
    unfold busyS
    rw [rankedL_len, ranked_load (F := manyUp t) (fun _ _ => rfl) h _ (Nat.le_refl _)]
    rfl
  have h2 : ∀ b q, waitS (rankedL l R) ab b (rerank l[i] (R i)) q = waitS l ab' b l[i] q := fun b q => by
    funext t
    unfold waitS
    rw [rankedL_len, ranked_load (F := manyAt t) (fun _ _ => rfl) h _ (Nat.le_refl _)]
    rfl
  have h3 : ∀ b q, longTo (rankedL l R) ab b (rerank l[i] (R i)) q = longTo l ab' b l[i] q := fun b q => by
    induction q with
    | zero => rfl
    | succ q ih =>
      rw [longTo, longTo, ih, h2]
      rfl
  simp only [respS, e, e', hb, h1, h3]
  rfl
end Go.Proofs.Ytlbbhlkbhegegaa
