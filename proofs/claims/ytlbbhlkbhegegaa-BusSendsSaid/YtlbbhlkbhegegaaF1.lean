/- Walks: bus.Check and its closure. -/
import Derived.Test.YtlbbhlkbhegegaaN1
import Derived.Test.YtlbbhlkbhegegaaFrm
namespace Go.Proofs.Ytlbbhlkbhegegaa
open Go.RowKit

theorem rankEq_any (f : MFrame) (fb : Nat) (r : Int) (w : World) (hb : fb < w.heap.size) (hr : w.cell? ⟨fb, 4, none⟩ = some (.int .i64 r)) :
    Calls Try.prog 79 #[frameV f, .pointer (some ⟨fb, 0, none⟩)] w fun e w' => e = .returned (.bool (f.rank == r)) ∧ Below w.heap.size w w' := by
  unfold frameV
  go_enter Try.func79, Try.ntmps79
  go_wp2
  go_ret
  exact ⟨rfl, (Below.refl _ _).alloc (Nat.le_refl _) _⟩

theorem rankEq_b (f : MFrame) (fb : Nat) (r : Int) (b : Bool) (w : World) (hb : fb < w.heap.size) (hr : w.cell? ⟨fb, 4, none⟩ = some (.int .i64 r)) (he : (f.rank == r) = b) :
    Calls Try.prog 79 #[frameV f, .pointer (some ⟨fb, 0, none⟩)] w fun e w' => e = .returned (.bool b) ∧ Below w.heap.size w w' := he ▸ rankEq_any f fb r w hb hr
/-- an answer that is not below 0 just where some rank is met -/
def IdxPost (l : List MFrame) (r : Int) (w : World) (e : Ending) (w' : World) : Prop := (∃ i : Int, e = .returned (.int .i64 i) ∧ (0 ≤ i ↔ rankIn l r = true)) ∧ Below w.heap.size w w'
set_option maxHeartbeats 400000 in
theorem indexRank_any (A : Option Addr) (n cap : Nat) (l : List MFrame) (fb : Nat) (r : Int) (w : World) (h : FramesA w w.heap.size A l) (hn : n = l.length) (hb : fb < w.heap.size) (hr : w.cell? ⟨fb, 4, none⟩ = some (.int .i64 r)) :
    Calls Try.prog 108 #[.slice A n cap, .func (.func 79) #[] #[.pointer (some ⟨fb, 0, none⟩)]] w (IdxPost l r w) := by
  subst hn
  have hlen := h.1
  unfold maxLen at hlen
  go_enter Try.func108, Try.ntmps108
  go_wp2
  go_loopw [8] (fun i wr => ∃ k : Nat, k ≤ l.length ∧ i = .int .i64 k ∧ (∀ (j : Nat) (f : MFrame), j < k → l[j]? = some f → f.rank ≠ r) ∧ Below w.heap.size w wr) (fun i _ => l.length - (intOf i).toNat)
  case atStart => exact ⟨0, Nat.zero_le _, rfl, by omega, Below.refl _ _⟩
  case round =>
    obtain ⟨k, hk, rfl, hi, hbw⟩ := hrel
    have HI := Lib.hid hi
    clear hi
    have h' := h.keep hbw
    have hsz := hbw.size
    by_cases hlt : k < l.length
    · obtain ⟨f, b, off, hf, rfl, hbb, c0, c1, c2, c3, c4⟩ := h'.at_ hlt
      have HF := Lib.hid hf
      clear hf
      have hr' := (bcell hbw fb 4 hb).trans hr
      rcases he : (f.rank == r)
      all_goals
        have HE := Lib.hid he
        clear he
        go_wp2_with (go_at_call 79; refine (rankEq_b f fb r _ _ (by omega) hr' HE.out).mono ?_; rintro e w2 ⟨rfl, hb2⟩)
      · go_roundw
        case rel => exact ⟨k + 1, by omega, by go_num, fun j g hj hg => by
          rcases Nat.lt_or_ge j k with h1 | h1
          · exact HI.out j g h1 hg
          · have : j = k := by omega
            subst this
            rw [HF.out] at hg
            injection hg with hg
            subst hg
            exact beq_eq_false_iff_ne.1 HE.out, hbw.trans (hb2.mono hsz)⟩
        case measure => simp [intOf]; omega
      · go_ret
        exact ⟨⟨k, rfl, fun _ => rankIn_hit HF.out (beq_iff_eq.1 HE.out), fun _ => by omega⟩, hbw.trans (hb2.mono hsz)⟩
    · go_wp2_with fail
      go_ret
      have hm := rankIn_miss (l := l) (r := r) fun j f hj hf => HI.out j f (by omega) hf
      exact ⟨⟨-1, rfl, fun h => by omega, fun h => by rw [hm] at h; cases h⟩, hbw⟩
theorem containsRank_b (A : Option Addr) (n cap : Nat) (l : List MFrame) (fb : Nat) (r : Int) (b : Bool) (w : World) (h : FramesA w w.heap.size A l) (hn : n = l.length) (hb : fb < w.heap.size) (hr : w.cell? ⟨fb, 4, none⟩ = some (.int .i64 r)) (he : rankIn l r = b) :
    Calls Try.prog 78 #[.slice A n cap, .func (.func 79) #[] #[.pointer (some ⟨fb, 0, none⟩)]] w fun e w' => e = .returned (.bool b) ∧ Below w.heap.size w w' := by
  have HN := Lib.hid hn
  have HE := Lib.hid he
  clear hn he
  go_enter Try.func78, Try.ntmps78
  go_wp2_with (go_at_call 108; refine (indexRank_any _ _ _ l fb r _ h HN.out hb hr).mono ?_; rintro e w2 ⟨⟨i, rfl, hi⟩, hb2⟩; have HI := Lib.hid hi; clear hi)
  go_ret
  refine ⟨ret_b ?_, hb2⟩
  rw [← HE.out, Bool.eq_iff_iff, ← HI.out]
  simp

def fcheckS (l : List MFrame) : Int := if framesB l = true then 0 else 40
theorem fcheck_no {l : List MFrame} (h : framesB l = false) : fcheckS l = 40 := by unfold fcheckS; rw [h]; rfl
theorem fcheck_yes {l : List MFrame} (h : framesB l = true) : fcheckS l = 0 := by unfold fcheckS; rw [h]; rfl

set_option maxRecDepth 100000 in
set_option maxHeartbeats 2000000 in
theorem fcheck_any (A : Option Addr) (cap : Nat) (l : List MFrame) (w : World) (h : FramesA w w.heap.size A l) (hcap : l.length ≤ cap) :
    Calls Try.prog 37 #[.slice A l.length cap] w fun e w' => e = .returned (.int .i64 (fcheckS l)) ∧ Below w.heap.size w w' := by
  have hlen := h.1
  unfold maxLen at hlen
  by_cases h40 : 40 < l.length
  · have HZ := Lib.hid (framesB_len h40)
    go_enter Try.func37, Try.ntmps37
    go_wp2
    go_ret
    exact ⟨ret_i (fcheck_no HZ.out).symm, Below.refl _ _⟩
  have h40' : l.length ≤ 40 := by omega
  go_enter Try.func37, Try.ntmps37
  go_wp2
  go_loopw [10] (fun i wr => ∃ k : Nat, k ≤ l.length ∧ i = .int .i64 k ∧ (∀ j, j < k → frameOk l j = true) ∧ Below w.heap.size w wr) (fun i _ => l.length - (intOf i).toNat)
  case atStart => exact ⟨0, Nat.zero_le _, rfl, by omega, Below.refl _ _⟩
  case round =>
    obtain ⟨k, hk, rfl, hi, hbw⟩ := hrel
    have HI := Lib.hid hi
    clear hi
    have h' := h.keep hbw
    have hsz := hbw.size
    by_cases hlt : k < l.length
    · obtain ⟨f, b, off, hf, rfl, hbb, c0, c1, c2, c3, c4⟩ := h'.at_ hlt
      have HOK := Lib.hid (frameOk_of hf)
      clear hf
      have hb1 : Below w.heap.size wr (wr.alloc (.cells #[.int .i64 f.size, .int .i64 f.every, .int .i64 f.jitter, .int .i64 f.due, .int .i64 f.rank] 41)) := (Below.refl _ _).alloc hsz _
      have h1 := ((h'.keep hb1).more (B' := (wr.alloc (.cells #[.int .i64 f.size, .int .i64 f.every, .int .i64 f.jitter, .int .i64 f.due, .int .i64 f.rank] 41)).heap.size) (by simp; omega)).take k
      have HN : Hid (k = (l.take k).length) := by show k = _; rw [List.length_take]; omega
      have n4 := newcell wr #[.int .i64 f.size, .int .i64 f.every, .int .i64 f.jitter, .int .i64 f.due, .int .i64 f.rank] 41 4
      simp only [List.getElem?_toArray, List.getElem?_cons_succ, List.getElem?_cons_zero] at n4
      have HNB : Hid (numsB f = (inB f.size 1 1000 && inB f.every 1 100000 && inB f.due 1 100000 && inB f.jitter 0 100000 && inB f.rank 0 1000)) := rfl
      rcases hx0 : inB f.size 1 1000
      · have X0 := Lib.hid hx0
        clear hx0
        go_wp2_with (first | (go_at_call 67; (with_reducible refine (within_b f.size _ _ _ _ X0.out).mono ?_); rintro e w' ⟨rfl, rfl⟩))
        go_ret
        exact ⟨ret_i (fcheck_no (framesB_no hlt (by rw [HOK.out, HNB.out, X0.out]; simp))).symm, hbw.trans hb1⟩
      have X0 := Lib.hid hx0
      clear hx0
      rcases hx1 : inB f.every 1 100000
      · have X1 := Lib.hid hx1
        clear hx1
        go_wp2_with (first | (go_at_call 67; (with_reducible refine (within_b f.size _ _ _ _ X0.out).mono ?_); rintro e w' ⟨rfl, rfl⟩) | (go_at_call 67; (with_reducible refine (within_b f.every _ _ _ _ X1.out).mono ?_); rintro e w' ⟨rfl, rfl⟩))
        go_ret
        exact ⟨ret_i (fcheck_no (framesB_no hlt (by rw [HOK.out, HNB.out, X1.out]; simp))).symm, hbw.trans hb1⟩
      have X1 := Lib.hid hx1
      clear hx1
      rcases hx2 : inB f.due 1 100000
      · have X2 := Lib.hid hx2
        clear hx2
        go_wp2_with (first | (go_at_call 67; (with_reducible refine (within_b f.size _ _ _ _ X0.out).mono ?_); rintro e w' ⟨rfl, rfl⟩) | (go_at_call 67; (with_reducible refine (within_b f.every _ _ _ _ X1.out).mono ?_); rintro e w' ⟨rfl, rfl⟩) | (go_at_call 67; (with_reducible refine (within_b f.due _ _ _ _ X2.out).mono ?_); rintro e w' ⟨rfl, rfl⟩))
        go_ret
        exact ⟨ret_i (fcheck_no (framesB_no hlt (by rw [HOK.out, HNB.out, X2.out]; simp))).symm, hbw.trans hb1⟩
      have X2 := Lib.hid hx2
      clear hx2
      rcases hx3 : inB f.jitter 0 100000
      · have X3 := Lib.hid hx3
        clear hx3
        go_wp2_with (first | (go_at_call 67; (with_reducible refine (within_b f.size _ _ _ _ X0.out).mono ?_); rintro e w' ⟨rfl, rfl⟩) | (go_at_call 67; (with_reducible refine (within_b f.every _ _ _ _ X1.out).mono ?_); rintro e w' ⟨rfl, rfl⟩) | (go_at_call 67; (with_reducible refine (within_b f.due _ _ _ _ X2.out).mono ?_); rintro e w' ⟨rfl, rfl⟩) | (go_at_call 67; (with_reducible refine (within_b f.jitter _ _ _ _ X3.out).mono ?_); rintro e w' ⟨rfl, rfl⟩))
        go_ret
        exact ⟨ret_i (fcheck_no (framesB_no hlt (by rw [HOK.out, HNB.out, X3.out]; simp))).symm, hbw.trans hb1⟩
      have X3 := Lib.hid hx3
      clear hx3
      rcases hx4 : inB f.rank 0 1000
      · have X4 := Lib.hid hx4
        clear hx4
        go_wp2_with (first | (go_at_call 67; (with_reducible refine (within_b f.size _ _ _ _ X0.out).mono ?_); rintro e w' ⟨rfl, rfl⟩) | (go_at_call 67; (with_reducible refine (within_b f.every _ _ _ _ X1.out).mono ?_); rintro e w' ⟨rfl, rfl⟩) | (go_at_call 67; (with_reducible refine (within_b f.due _ _ _ _ X2.out).mono ?_); rintro e w' ⟨rfl, rfl⟩) | (go_at_call 67; (with_reducible refine (within_b f.jitter _ _ _ _ X3.out).mono ?_); rintro e w' ⟨rfl, rfl⟩) | (go_at_call 67; (with_reducible refine (within_b f.rank _ _ _ _ X4.out).mono ?_); rintro e w' ⟨rfl, rfl⟩))
        go_ret
        exact ⟨ret_i (fcheck_no (framesB_no hlt (by rw [HOK.out, HNB.out, X4.out]; simp))).symm, hbw.trans hb1⟩
      have X4 := Lib.hid hx4
      clear hx4
      have HNT : Hid (numsB f = true) := by show _ = _; rw [HNB.out, X0.out, X1.out, X2.out, X3.out, X4.out]; rfl
      rcases hr : rankIn (l.take k) f.rank
      all_goals
        have HR := Lib.hid hr
        clear hr
        go_wp2_with (first | (go_at_call 78; refine (containsRank_b _ _ _ (l.take k) wr.heap.size f.rank _ _ h1 HN.out (by simp) n4 HR.out).mono ?_; rintro e w2 ⟨rfl, hb2⟩) | (go_at_call 67; (with_reducible refine (within_b f.size _ _ _ _ X0.out).mono ?_); rintro e w' ⟨rfl, rfl⟩) | (go_at_call 67; (with_reducible refine (within_b f.every _ _ _ _ X1.out).mono ?_); rintro e w' ⟨rfl, rfl⟩) | (go_at_call 67; (with_reducible refine (within_b f.due _ _ _ _ X2.out).mono ?_); rintro e w' ⟨rfl, rfl⟩) | (go_at_call 67; (with_reducible refine (within_b f.jitter _ _ _ _ X3.out).mono ?_); rintro e w' ⟨rfl, rfl⟩) | (go_at_call 67; (with_reducible refine (within_b f.rank _ _ _ _ X4.out).mono ?_); rintro e w' ⟨rfl, rfl⟩))
      · go_roundw
        case rel => exact ⟨k + 1, by omega, by go_num, nat_snoc HI.out (by rw [HOK.out, HNT.out, HR.out]; rfl), (hbw.trans hb1).trans (hb2.mono (by simp; omega))⟩
        case measure => simp [intOf]; omega
      · go_ret
        exact ⟨ret_i (fcheck_no (framesB_no hlt (by rw [HOK.out, HNT.out, HR.out]; rfl))).symm, (hbw.trans hb1).trans (hb2.mono (by simp; omega))⟩
    · have HZ := Lib.hid (framesB_yes h40' fun j hj => HI.out j (by omega))
      clear HI
      go_wp2_with fail
      go_ret
      exact ⟨ret_i (fcheck_yes HZ.out).symm, hbw⟩
end Go.Proofs.Ytlbbhlkbhegegaa
