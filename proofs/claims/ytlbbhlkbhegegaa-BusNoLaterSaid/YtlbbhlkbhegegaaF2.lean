/- Walks: ignitionref04.Check. -/
import Derived.Test.YtlbbhlkbhegegaaF1
namespace Go.Proofs.Ytlbbhlkbhegegaa
open Go.RowKit

theorem rankIn_take_hit {l : List MFrame} {k j : Nat} {f : MFrame} {r : Int} (hj : j < k) (hf : l[j]? = some f) (h : f.rank = r) : rankIn (l.take k) r = true :=
  rankIn_hit (k := j) (by rw [List.getElem?_take, if_pos hj]; exact hf) h
theorem rankIn_take_miss {l : List MFrame} {k : Nat} {r : Int} (h : ∀ (j : Nat) (f : MFrame), j < k → l[j]? = some f → f.rank ≠ r) : rankIn (l.take k) r = false :=
  rankIn_miss fun j f hj hf => by
    rw [List.length_take] at hj
    rw [List.getElem?_take, if_pos (by omega)] at hf
    exact h j f (by omega) hf
set_option maxRecDepth 100000 in
set_option maxHeartbeats 2000000 in
theorem rfcheck_any (A : Option Addr) (cap : Nat) (l : List MFrame) (w : World) (h : FramesA w w.heap.size A l) :
    Calls Try.prog 23 #[.slice A l.length cap] w fun e w' => e = .returned (.int .i64 (fcheckS l)) ∧ Below w.heap.size w w' := by
  have hlen := h.1
  unfold maxLen at hlen
  by_cases h40 : 40 < l.length
  · have HZ := Lib.hid (framesB_len h40)
    go_enter Try.func23, Try.ntmps23
    go_wp2
    go_ret
    exact ⟨ret_i (fcheck_no HZ.out).symm, Below.refl _ _⟩
  have h40' : l.length ≤ 40 := by omega
  go_enter Try.func23, Try.ntmps23
  go_wp2
  go_loopw [2, 3] (fun v i wr => v = .int .i64 0 ∧ ∃ k : Nat, k ≤ l.length ∧ i = .int .i64 k ∧ (∀ j, j < k → frameOk l j = true) ∧ Below w.heap.size w wr) (fun _ i _ => l.length - (intOf i).toNat)
  case atStart => exact ⟨rfl, 0, Nat.zero_le _, rfl, by omega, Below.refl _ _⟩
  case round =>
    obtain ⟨rfl, k, hk, rfl, hi, hbw⟩ := hrel
    have HI := Lib.hid hi
    clear hi
    have h' := h.keep hbw
    have hsz := hbw.size
    by_cases hlt : k < l.length
    · obtain ⟨f, b, off, hf, rfl, hbb, c0, c1, c2, c3, c4⟩ := h'.at_ hlt
      have HOK := Lib.hid (frameOk_of hf)
      clear hf
      have hb1 : Below w.heap.size wr (wr.alloc (.cells #[.int .i64 f.size, .int .i64 f.every, .int .i64 f.jitter, .int .i64 f.due, .int .i64 f.rank] 41)) := (Below.refl _ _).alloc hsz _
      have n4 := newcell wr #[.int .i64 f.size, .int .i64 f.every, .int .i64 f.jitter, .int .i64 f.due, .int .i64 f.rank] 41 4
      simp only [List.getElem?_toArray, List.getElem?_cons_succ, List.getElem?_cons_zero] at n4
      have HNB : Hid (numsB f = (inB f.size 1 1000 && inB f.every 1 100000 && inB f.due 1 100000 && inB f.jitter 0 100000 && inB f.rank 0 1000)) := rfl
      rcases hx0 : inB f.size 1 1000
      · have X0 := Lib.hid hx0
        clear hx0
        go_wp2_with (first | (go_at_call 64; (with_reducible refine (rwithin_b f.size _ _ _ _ X0.out).mono ?_); rintro e w' ⟨rfl, rfl⟩))
        go_ret
        exact ⟨ret_i (fcheck_no (framesB_no hlt (by rw [HOK.out, HNB.out, X0.out]; simp))).symm, hbw.trans hb1⟩
      have X0 := Lib.hid hx0
      clear hx0
      rcases hx1 : inB f.every 1 100000
      · have X1 := Lib.hid hx1
        clear hx1
        go_wp2_with (first | (go_at_call 64; (with_reducible refine (rwithin_b f.size _ _ _ _ X0.out).mono ?_); rintro e w' ⟨rfl, rfl⟩) | (go_at_call 64; (with_reducible refine (rwithin_b f.every _ _ _ _ X1.out).mono ?_); rintro e w' ⟨rfl, rfl⟩))
        go_ret
        exact ⟨ret_i (fcheck_no (framesB_no hlt (by rw [HOK.out, HNB.out, X1.out]; simp))).symm, hbw.trans hb1⟩
      have X1 := Lib.hid hx1
      clear hx1
      rcases hx2 : inB f.jitter 0 100000
      · have X2 := Lib.hid hx2
        clear hx2
        go_wp2_with (first | (go_at_call 64; (with_reducible refine (rwithin_b f.size _ _ _ _ X0.out).mono ?_); rintro e w' ⟨rfl, rfl⟩) | (go_at_call 64; (with_reducible refine (rwithin_b f.every _ _ _ _ X1.out).mono ?_); rintro e w' ⟨rfl, rfl⟩) | (go_at_call 64; (with_reducible refine (rwithin_b f.jitter _ _ _ _ X2.out).mono ?_); rintro e w' ⟨rfl, rfl⟩))
        go_ret
        exact ⟨ret_i (fcheck_no (framesB_no hlt (by rw [HOK.out, HNB.out, X2.out]; simp))).symm, hbw.trans hb1⟩
      have X2 := Lib.hid hx2
      clear hx2
      rcases hx3 : inB f.due 1 100000
      · have X3 := Lib.hid hx3
        clear hx3
        go_wp2_with (first | (go_at_call 64; (with_reducible refine (rwithin_b f.size _ _ _ _ X0.out).mono ?_); rintro e w' ⟨rfl, rfl⟩) | (go_at_call 64; (with_reducible refine (rwithin_b f.every _ _ _ _ X1.out).mono ?_); rintro e w' ⟨rfl, rfl⟩) | (go_at_call 64; (with_reducible refine (rwithin_b f.jitter _ _ _ _ X2.out).mono ?_); rintro e w' ⟨rfl, rfl⟩) | (go_at_call 64; (with_reducible refine (rwithin_b f.due _ _ _ _ X3.out).mono ?_); rintro e w' ⟨rfl, rfl⟩))
        go_ret
        exact ⟨ret_i (fcheck_no (framesB_no hlt (by rw [HOK.out, HNB.out, X3.out]; simp))).symm, hbw.trans hb1⟩
      have X3 := Lib.hid hx3
      clear hx3
      rcases hx4 : inB f.rank 0 1000
      · have X4 := Lib.hid hx4
        clear hx4
        go_wp2_with (first | (go_at_call 64; (with_reducible refine (rwithin_b f.size _ _ _ _ X0.out).mono ?_); rintro e w' ⟨rfl, rfl⟩) | (go_at_call 64; (with_reducible refine (rwithin_b f.every _ _ _ _ X1.out).mono ?_); rintro e w' ⟨rfl, rfl⟩) | (go_at_call 64; (with_reducible refine (rwithin_b f.jitter _ _ _ _ X2.out).mono ?_); rintro e w' ⟨rfl, rfl⟩) | (go_at_call 64; (with_reducible refine (rwithin_b f.due _ _ _ _ X3.out).mono ?_); rintro e w' ⟨rfl, rfl⟩) | (go_at_call 64; (with_reducible refine (rwithin_b f.rank _ _ _ _ X4.out).mono ?_); rintro e w' ⟨rfl, rfl⟩))
        go_ret
        exact ⟨ret_i (fcheck_no (framesB_no hlt (by rw [HOK.out, HNB.out, X4.out]; simp))).symm, hbw.trans hb1⟩
      have X4 := Lib.hid hx4
      clear hx4
      have HNT : Hid (numsB f = true) := by show _ = _; rw [HNB.out, X0.out, X1.out, X2.out, X3.out, X4.out]; rfl
      go_wp2_with (first | (go_at_call 64; (with_reducible refine (rwithin_b f.size _ _ _ _ X0.out).mono ?_); rintro e w' ⟨rfl, rfl⟩) | (go_at_call 64; (with_reducible refine (rwithin_b f.every _ _ _ _ X1.out).mono ?_); rintro e w' ⟨rfl, rfl⟩) | (go_at_call 64; (with_reducible refine (rwithin_b f.jitter _ _ _ _ X2.out).mono ?_); rintro e w' ⟨rfl, rfl⟩) | (go_at_call 64; (with_reducible refine (rwithin_b f.due _ _ _ _ X3.out).mono ?_); rintro e w' ⟨rfl, rfl⟩) | (go_at_call 64; (with_reducible refine (rwithin_b f.rank _ _ _ _ X4.out).mono ?_); rintro e w' ⟨rfl, rfl⟩))
      have hF1 := (h.keep (hbw.trans hb1))
      have hb2 := hbw.trans hb1
      generalize hW : wr.alloc (.cells #[.int .i64 f.size, .int .i64 f.every, .int .i64 f.jitter, .int .i64 f.due, .int .i64 f.rank] 41) = w5 at *
      clear hW c0 c1 c2 c3 c4 h'
      obtain ⟨wo, rfl⟩ : ∃ wo : World, wo = wr := ⟨_, rfl⟩
      go_loopw [2, 5] (fun v i wy => v = .int .i64 0 ∧ ∃ j : Nat, j ≤ k ∧ i = .int .i64 j ∧ (∀ (m : Nat) (g : MFrame), m < j → l[m]? = some g → g.rank ≠ f.rank) ∧ ∃ q, wy = w5.drewN q) (fun _ i _ => k - (intOf i).toNat)
      case atStart => exact ⟨rfl, 0, Nat.zero_le _, rfl, by omega, 0, rfl⟩
      case round =>
        obtain ⟨rfl, j, hj, rfl, hm, q, hwy⟩ := hrel
        have HM := Lib.hid hm
        clear hm
        have hF2 : FramesA wr w.heap.size (some ⟨b, off, none⟩) l := by rw [hwy]; exact hF1
        have n4' : wr.cell? ⟨wo.heap.size, 4, none⟩ = some (.int .i64 f.rank) := by rw [hwy]; exact n4
        have HWY := Lib.hid hwy
        clear hwy
        by_cases hjk : j < k
        · obtain ⟨g, b', off', hg, he, hbb', d0, d1, d2, d3, d4⟩ := hF2.at_ (k := j) (by omega)
          injection he with he
          injection he with he1 he2
          subst he1
          subst he2
          have HG := Lib.hid hg
          have hjl : j < l.length := by omega
          clear hg
          go_wp2_with fail
          generalize hy : g.rank = y at *
          have HY := Lib.hid hy
          clear hy d0 d1 d2 d3
          by_cases hr : y = f.rank
          · have HR := Lib.hid hr
            have hr2 : (y == f.rank) = true := by simpa using hr
            clear hr
            go_quiet (fail)
            go_wp2_with fail
            go_ret
            exact ⟨ret_i (fcheck_no (framesB_no hlt (by rw [HOK.out, rankIn_take_hit hjk HG.out (HY.out.trans HR.out)]; simp))).symm, by rw [HWY.out, World.drewN_drewN]; exact ⟨hb2.os, hb2.tape, hb2.output, hb2.size, hb2.block⟩⟩
          · have HR : Hid (y ≠ f.rank) := hr
            have hr2 : (y == f.rank) = false := by simpa using hr
            clear hr
            go_quiet (fail)
            go_wp2_with fail
            go_roundw
            case rel => exact ⟨rfl, j + 1, by omega, by go_num, fun m g' hm hg' => by
              rcases Nat.lt_or_ge m j with h1 | h1
              · exact HM.out m g' h1 hg'
              · have : m = j := by omega
                subst this
                rw [HG.out] at hg'
                injection hg' with hg'
                subst hg'
                rw [HY.out]
                exact HR.out, q + nq, by rw [HWY.out, World.drewN_drewN]⟩
            case measure => simp [intOf]; omega
        · obtain rfl : j = k := by omega
          go_wp2_with fail
          go_roundw
          case rel => exact ⟨rfl, j + 1, by omega, by go_num, nat_snoc HI.out (by rw [HOK.out, HNT.out, rankIn_take_miss HM.out]; rfl), by rw [HWY.out]; exact ⟨hb2.os, hb2.tape, hb2.output, hb2.size, hb2.block⟩⟩
          case measure => simp [intOf]; omega
    · have HZ := Lib.hid (framesB_yes h40' fun j hj => HI.out j (by omega))
      clear HI
      go_wp2_with fail
      go_ret
      exact ⟨ret_i (fcheck_yes HZ.out).symm, hbw⟩
end Go.Proofs.Ytlbbhlkbhegegaa
