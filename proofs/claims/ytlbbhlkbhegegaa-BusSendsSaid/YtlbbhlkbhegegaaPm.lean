/- Walks: Check of frames by the reference; releases. -/
import Derived.Test.YtlbbhlkbhegegaaF1
/- Walks: ignitionref04.Check. -/
namespace Go.Proofs.Ytlbbhlkbhegegaa
open Go.RowKit

theorem rankIn_take_hit {l : List MFrame} {k j : Nat} {f : MFrame} {r : Int} (hj : j < k) (hf : l[j]? = some f) (h : f.rank = r) : rankIn (l.take k) r = true :=
  rankIn_hit (k := j) (by rw [List.getElem?_take, if_pos hj]; exact hf) h
theorem rankIn_take_miss {l : List MFrame} {k : Nat} {r : Int} (h : ∀ (j : Nat) (f : MFrame), j < k → l[j]? = some f → f.rank ≠ r) : rankIn (l.take k) r = false :=
  rankIn_miss fun j f hj hf => by
    rw [List.length_take] at hj
    rw [List.getElem?_take, if_pos (by omega)] at hf
    exact h j f (by omega) hf
set_option maxRecDepth 100000 in
set_option maxHeartbeats 2000000 in
theorem rfcheck_any (A : Option Addr) (cap : Nat) (l : List MFrame) (w : World) (h : FramesA w w.heap.size A l) :
    Calls Try.prog 23 #[.slice A l.length cap] w fun e w' => e = .returned (.int .i64 (fcheckS l)) ∧ Below w.heap.size w w' := by
  have hlen := h.1
  unfold maxLen at hlen
  by_cases h40 : 40 < l.length
  · have HZ := Lib.hid (framesB_len h40)
    go_enter Try.func23, Try.ntmps23
    go_wp2
    go_ret
    exact ⟨ret_i (fcheck_no HZ.out).symm, Below.refl _ _⟩
  have h40' : l.length ≤ 40 := by omega
  go_enter Try.func23, Try.ntmps23
  go_wp2
  go_loopw [2, 3] (fun v i wr => v = .int .i64 0 ∧ ∃ k : Nat, k ≤ l.length ∧ i = .int .i64 k ∧ (∀ j, j < k → frameOk l j = true) ∧ Below w.heap.size w wr) (fun _ i _ => l.length - (intOf i).toNat)
  case atStart => exact ⟨rfl, 0, Nat.zero_le _, rfl, by omega, Below.refl _ _⟩
  case round =>
    obtain ⟨rfl, k, hk, rfl, hi, hbw⟩ := hrel
    have HI := Lib.hid hi
    clear hi
    have h' := h.keep hbw
    have hsz := hbw.size
    by_cases hlt : k < l.length
    · obtain ⟨f, b, off, hf, rfl, hbb, c0, c1, c2, c3, c4⟩ := h'.at_ hlt
      have HOK := Lib.hid (frameOk_of hf)
      clear hf
      have hb1 : Below w.heap.size wr (wr.alloc (.cells #[.int .i64 f.size, .int .i64 f.every, .int .i64 f.jitter, .int .i64 f.due, .int .i64 f.rank] 41)) := (Below.refl _ _).alloc hsz _
      have n4 := newcell wr #[.int .i64 f.size, .int .i64 f.every, .int .i64 f.jitter, .int .i64 f.due, .int .i64 f.rank] 41 4
      simp only [List.getElem?_toArray, List.getElem?_cons_succ, List.getElem?_cons_zero] at n4
      have HNB : Hid (numsB f = (inB f.size 1 1000 && inB f.every 1 100000 && inB f.due 1 100000 && inB f.jitter 0 100000 && inB f.rank 0 1000)) := rfl
      rcases hx0 : inB f.size 1 1000
      · have X0 := Lib.hid hx0
        clear hx0
        go_wp2_with (first | (go_at_call 64; (with_reducible refine (rwithin_b f.size _ _ _ _ X0.out).mono ?_); rintro e w' ⟨rfl, rfl⟩))
        go_ret
        exact ⟨ret_i (fcheck_no (framesB_no hlt (by rw [HOK.out, HNB.out, X0.out]; simp))).symm, hbw.trans hb1⟩
      have X0 := Lib.hid hx0
      clear hx0
      rcases hx1 : inB f.every 1 100000
      · have X1 := Lib.hid hx1
        clear hx1
        go_wp2_with (first | (go_at_call 64; (with_reducible refine (rwithin_b f.size _ _ _ _ X0.out).mono ?_); rintro e w' ⟨rfl, rfl⟩) | (go_at_call 64; (with_reducible refine (rwithin_b f.every _ _ _ _ X1.out).mono ?_); rintro e w' ⟨rfl, rfl⟩))
        go_ret
        exact ⟨ret_i (fcheck_no (framesB_no hlt (by rw [HOK.out, HNB.out, X1.out]; simp))).symm, hbw.trans hb1⟩
      have X1 := Lib.hid hx1
      clear hx1
      rcases hx2 : inB f.jitter 0 100000
      · have X2 := Lib.hid hx2
        clear hx2
        go_wp2_with (first | (go_at_call 64; (with_reducible refine (rwithin_b f.size _ _ _ _ X0.out).mono ?_); rintro e w' ⟨rfl, rfl⟩) | (go_at_call 64; (with_reducible refine (rwithin_b f.every _ _ _ _ X1.out).mono ?_); rintro e w' ⟨rfl, rfl⟩) | (go_at_call 64; (with_reducible refine (rwithin_b f.jitter _ _ _ _ X2.out).mono ?_); rintro e w' ⟨rfl, rfl⟩))
        go_ret
        exact ⟨ret_i (fcheck_no (framesB_no hlt (by rw [HOK.out, HNB.out, X2.out]; simp))).symm, hbw.trans hb1⟩
      have X2 := Lib.hid hx2
      clear hx2
      rcases hx3 : inB f.due 1 100000
      · have X3 := Lib.hid hx3
        clear hx3
        go_wp2_with (first | (go_at_call 64; (with_reducible refine (rwithin_b f.size _ _ _ _ X0.out).mono ?_); rintro e w' ⟨rfl, rfl⟩) | (go_at_call 64; (with_reducible refine (rwithin_b f.every _ _ _ _ X1.out).mono ?_); rintro e w' ⟨rfl, rfl⟩) | (go_at_call 64; (with_reducible refine (rwithin_b f.jitter _ _ _ _ X2.out).mono ?_); rintro e w' ⟨rfl, rfl⟩) | (go_at_call 64; (with_reducible refine (rwithin_b f.due _ _ _ _ X3.out).mono ?_); rintro e w' ⟨rfl, rfl⟩))
        go_ret
        exact ⟨ret_i (fcheck_no (framesB_no hlt (by rw [HOK.out, HNB.out, X3.out]; simp))).symm, hbw.trans hb1⟩
      have X3 := Lib.hid hx3
      clear hx3
      rcases hx4 : inB f.rank 0 1000
      · have X4 := Lib.hid hx4
        clear hx4
        go_wp2_with (first | (go_at_call 64; (with_reducible refine (rwithin_b f.size _ _ _ _ X0.out).mono ?_); rintro e w' ⟨rfl, rfl⟩) | (go_at_call 64; (with_reducible refine (rwithin_b f.every _ _ _ _ X1.out).mono ?_); rintro e w' ⟨rfl, rfl⟩) | (go_at_call 64; (with_reducible refine (rwithin_b f.jitter _ _ _ _ X2.out).mono ?_); rintro e w' ⟨rfl, rfl⟩) | (go_at_call 64; (with_reducible refine (rwithin_b f.due _ _ _ _ X3.out).mono ?_); rintro e w' ⟨rfl, rfl⟩) | (go_at_call 64; (with_reducible refine (rwithin_b f.rank _ _ _ _ X4.out).mono ?_); rintro e w' ⟨rfl, rfl⟩))
        go_ret
        exact ⟨ret_i (fcheck_no (framesB_no hlt (by rw [HOK.out, HNB.out, X4.out]; simp))).symm, hbw.trans hb1⟩
      have X4 := Lib.hid hx4
      clear hx4
      have HNT : Hid (numsB f = true) := by show _ = _; rw [HNB.out, X0.out, X1.out, X2.out, X3.out, X4.out]; rfl
      go_wp2_with (first | (go_at_call 64; (with_reducible refine (rwithin_b f.size _ _ _ _ X0.out).mono ?_); rintro e w' ⟨rfl, rfl⟩) | (go_at_call 64; (with_reducible refine (rwithin_b f.every _ _ _ _ X1.out).mono ?_); rintro e w' ⟨rfl, rfl⟩) | (go_at_call 64; (with_reducible refine (rwithin_b f.jitter _ _ _ _ X2.out).mono ?_); rintro e w' ⟨rfl, rfl⟩) | (go_at_call 64; (with_reducible refine (rwithin_b f.due _ _ _ _ X3.out).mono ?_); rintro e w' ⟨rfl, rfl⟩) | (go_at_call 64; (with_reducible refine (rwithin_b f.rank _ _ _ _ X4.out).mono ?_); rintro e w' ⟨rfl, rfl⟩))
      have hF1 := (h.keep (hbw.trans hb1))
      have hb2 := hbw.trans hb1
      generalize hW : wr.alloc (.cells #[.int .i64 f.size, .int .i64 f.every, .int .i64 f.jitter, .int .i64 f.due, .int .i64 f.rank] 41) = w5 at *
      clear hW c0 c1 c2 c3 c4 h'
      obtain ⟨wo, rfl⟩ : ∃ wo : World, wo = wr := ⟨_, rfl⟩
      go_loopw [2, 5] (fun v i wy => v = .int .i64 0 ∧ ∃ j : Nat, j ≤ k ∧ i = .int .i64 j ∧ (∀ (m : Nat) (g : MFrame), m < j → l[m]? = some g → g.rank ≠ f.rank) ∧ ∃ q, wy = w5.drewN q) (fun _ i _ => k - (intOf i).toNat)
      case atStart => exact ⟨rfl, 0, Nat.zero_le _, rfl, by omega, 0, rfl⟩
      case round =>
        obtain ⟨rfl, j, hj, rfl, hm, q, hwy⟩ := hrel
        have HM := Lib.hid hm
        clear hm
        have hF2 : FramesA wr w.heap.size (some ⟨b, off, none⟩) l := by rw [hwy]; exact hF1
        have n4' : wr.cell? ⟨wo.heap.size, 4, none⟩ = some (.int .i64 f.rank) := by rw [hwy]; exact n4
        have HWY := Lib.hid hwy
        clear hwy
        by_cases hjk : j < k
        · obtain ⟨g, b', off', hg, he, hbb', d0, d1, d2, d3, d4⟩ := hF2.at_ (k := j) (by omega)
          injection he with he
          injection he with he1 he2
          subst he1
          subst he2
          have HG := Lib.hid hg
          have hjl : j < l.length := by omega
          clear hg
          go_wp2_with fail
          generalize hy : g.rank = y at *
          have HY := Lib.hid hy
          clear hy d0 d1 d2 d3
          by_cases hr : y = f.rank
          · have HR := Lib.hid hr
            have hr2 : (y == f.rank) = true := by simpa using hr
            clear hr
            go_quiet (fail)
            go_wp2_with fail
            go_ret
            exact ⟨ret_i (fcheck_no (framesB_no hlt (by rw [HOK.out, rankIn_take_hit hjk HG.out (HY.out.trans HR.out)]; simp))).symm, by rw [HWY.out, World.drewN_drewN]; exact ⟨hb2.os, hb2.tape, hb2.output, hb2.size, hb2.block⟩⟩
          · have HR : Hid (y ≠ f.rank) := hr
            have hr2 : (y == f.rank) = false := by simpa using hr
            clear hr
            go_quiet (fail)
            go_wp2_with fail
            go_roundw
            case rel => exact ⟨rfl, j + 1, by omega, by go_num, fun m g' hm hg' => by
              rcases Nat.lt_or_ge m j with h1 | h1
              · exact HM.out m g' h1 hg'
              · have : m = j := by omega
                subst this
                rw [HG.out] at hg'
                injection hg' with hg'
                subst hg'
                rw [HY.out]
                exact HR.out, q + nq, by rw [HWY.out, World.drewN_drewN]⟩
            case measure => simp [intOf]; omega
        · obtain rfl : j = k := by omega
          go_wp2_with fail
          go_roundw
          case rel => exact ⟨rfl, j + 1, by omega, by go_num, nat_snoc HI.out (by rw [HOK.out, HNT.out, rankIn_take_miss HM.out]; rfl), by rw [HWY.out]; exact ⟨hb2.os, hb2.tape, hb2.output, hb2.size, hb2.block⟩⟩
          case measure => simp [intOf]; omega
    · have HZ := Lib.hid (framesB_yes h40' fun j hj => HI.out j (by omega))
      clear HI
      go_wp2_with fail
      go_ret
      exact ⟨ret_i (fcheck_yes HZ.out).symm, hbw⟩
end Go.Proofs.Ytlbbhlkbhegegaa

/- Releases as plain data; walks: bus.checkReleases, ignitionref04.checkPlay, bus.before. -/
namespace Go.Proofs.Ytlbbhlkbhegegaa
open Go.RowKit

/-! ### releases: `rate` is the frame, `delay` the time -/
def relOk (n : Nat) (r : MGate) : Bool := inB r.rate 0 ((n : Int) - 1) && inB r.delay 0 1000000
def relsB (n : Nat) (rs : List MGate) : Bool := rs.all (relOk n)
def relS (l : List MFrame) (rs : List MGate) : Int := if framesB l = false then 40 else if 500 < rs.length then 2 else if relsB l.length rs = true then 0 else 1
theorem relS_frames {l : List MFrame} {rs : List MGate} (h : framesB l = false) : relS l rs = 40 := by unfold relS; rw [if_pos h]
theorem relS_many {l : List MFrame} {rs : List MGate} (h : framesB l = true) (h1 : 500 < rs.length) : relS l rs = 2 := by unfold relS; rw [if_neg (by rw [h]; simp), if_pos h1]
theorem relS_bad {l : List MFrame} {rs : List MGate} (h : framesB l = true) (h1 : rs.length ≤ 500) {k : Nat} {r : MGate} (hk : rs[k]? = some r) (hr : relOk l.length r = false) : relS l rs = 1 := by
  have h2 : relsB l.length rs = false := by
    unfold relsB
    rw [List.all_eq_false]
    exact ⟨r, List.mem_of_getElem? hk, by simp [hr]⟩
  unfold relS
  rw [if_neg (by rw [h]; simp), if_neg (by omega), if_neg (by rw [h2]; simp)]
theorem relsB_yes {n : Nat} {rs : List MGate} (h : ∀ (k : Nat) (r : MGate), k < rs.length → rs[k]? = some r → relOk n r = true) : relsB n rs = true := by
  unfold relsB
  rw [List.all_eq_true]
  intro r hr
  obtain ⟨k, hk, rfl⟩ := List.mem_iff_getElem.1 hr
  exact h k _ hk (List.getElem?_eq_getElem hk)
theorem relS_good {l : List MFrame} {rs : List MGate} (h : framesB l = true) (h1 : rs.length ≤ 500) (h2 : relsB l.length rs = true) : relS l rs = 0 := by
  unfold relS
  rw [if_neg (by rw [h]; simp), if_neg (by omega), if_pos h2]
theorem relS_parts {l : List MFrame} {rs : List MGate} (h : relS l rs = 0) : framesB l = true ∧ rs.length ≤ 500 ∧ relsB l.length rs = true := by
  unfold relS at h
  rcases hv : framesB l
  · rw [if_pos hv] at h; cases h
  · rw [if_neg (by rw [hv]; simp)] at h
    by_cases h5 : 500 < rs.length
    · rw [if_pos h5] at h; cases h
    · rw [if_neg h5] at h
      rcases hb : relsB l.length rs
      · rw [if_neg (by rw [hb]; simp)] at h; cases h
      · exact ⟨rfl, by omega, rfl⟩
theorem relsB_at {n : Nat} {rs : List MGate} (h : relsB n rs = true) {k : Nat} {r : MGate} (hk : rs[k]? = some r) : (0 ≤ r.rate ∧ r.rate < n) ∧ 0 ≤ r.delay ∧ r.delay ≤ 1000000 := by
  unfold relsB at h
  rw [List.all_eq_true] at h
  have h1 := h r (List.mem_of_getElem? hk)
  unfold relOk at h1
  rw [Bool.and_eq_true, inB_iff', inB_iff'] at h1
  omega

set_option maxRecDepth 100000 in
set_option maxHeartbeats 2000000 in
theorem crel_any (A : Option Addr) (cap : Nat) (l : List MFrame) (G : Option Addr) (gcap : Nat) (rs : List MGate) (w : World) (h : FramesA w w.heap.size A l) (hcap : l.length ≤ cap) (hG : GatesA w w.heap.size G rs) (hm : rs.length ≤ maxLen) {c : Int} (hc : relS l rs = c) :
    Calls Try.prog 76 #[.slice A l.length cap, .slice G rs.length gcap] w fun e w' => e = .returned (.int .i64 c) ∧ Below w.heap.size w w' := by
  have hC := fcheck_any A cap l w h hcap
  have hlen := h.1
  unfold maxLen at hlen hm
  rcases hv : framesB l
  · rw [relS_frames hv] at hc
    subst hc
    rw [fcheck_no hv] at hC
    have HC := Lib.hid hC
    clear hC hv
    go_enter Try.func76, Try.ntmps76
    go_wp2_with (go_at_call 37; refine HC.out.mono ?_; rintro e w1 ⟨rfl, hb1⟩)
    go_ret
    exact ⟨rfl, hb1⟩
  · rw [fcheck_yes hv] at hC
    have HC := Lib.hid hC
    have HV := Lib.hid hv
    have hl := (framesB_parts hv).1
    clear hC hv
    by_cases h5 : 500 < rs.length
    · rw [relS_many HV.out h5] at hc
      subst hc
      go_enter Try.func76, Try.ntmps76
      go_wp2_with (go_at_call 37; refine HC.out.mono ?_; rintro e w1 ⟨rfl, hb1⟩)
      go_ret
      exact ⟨rfl, hb1⟩
    · have HS := Lib.hid hc
      clear hc
      go_enter Try.func76, Try.ntmps76
      go_wp2_with (go_at_call 37; refine HC.out.mono ?_; rintro e w1 ⟨rfl, hb1⟩)
      go_loopw [18] (fun i wr => ∃ k : Nat, k ≤ rs.length ∧ i = .int .i64 k ∧ Hid (∀ (j : Nat) (r : MGate), j < k → rs[j]? = some r → relOk l.length r = true) ∧ Below w.heap.size w wr) (fun i _ => rs.length - (intOf i).toNat)
      case atStart => exact ⟨0, Nat.zero_le _, rfl, fun j r hj => by omega, hb1⟩
      case round =>
        obtain ⟨k, hk, rfl, HI, hbw⟩ := hrel
        have hsz := hbw.size
        by_cases hlt : k < rs.length
        · obtain ⟨r, b, off, hr, rfl, hbb, c0, c1⟩ := GatesA.at_ (SlA.below hG hbw (Nat.le_refl _)) hlt
          have HR := Lib.hid hr
          clear hr
          have HNB : Hid (relOk l.length r = (inB r.rate 0 ((l.length : Int) - 1) && inB r.delay 0 1000000)) := rfl
          rcases hx0 : inB r.rate 0 ((l.length : Int) - 1)
          · have X0 := Lib.hid hx0
            clear hx0
            go_wp2_with (first | (go_at_call 67; (with_reducible refine (within_b r.rate _ _ _ _ X0.out).mono ?_); rintro e w' ⟨rfl, rfl⟩))
            go_ret
            exact ⟨ret_i (by rw [← HS.out, relS_bad HV.out (by omega) HR.out (by rw [HNB.out, X0.out]; rfl)]), hbw.trans ((Below.refl _ _).alloc (Nat.le_refl _) _ |>.mono hsz)⟩
          rcases hx1 : inB r.delay 0 1000000
          all_goals
            have X0 := Lib.hid hx0
            have X1 := Lib.hid hx1
            clear hx0 hx1
            go_wp2_with (first | (go_at_call 67; (with_reducible refine (within_b r.rate _ _ _ _ X0.out).mono ?_); rintro e w' ⟨rfl, rfl⟩) | (go_at_call 67; (with_reducible refine (within_b r.delay _ _ _ _ X1.out).mono ?_); rintro e w' ⟨rfl, rfl⟩))
          · go_ret
            exact ⟨ret_i (by rw [← HS.out, relS_bad HV.out (by omega) HR.out (by rw [HNB.out, X0.out, X1.out]; rfl)]), hbw.trans ((Below.refl _ _).alloc (Nat.le_refl _) _ |>.mono hsz)⟩
          · go_roundw
            case rel =>
              refine ⟨k + 1, by omega, by go_num, fun j r' hj hr' => ?_, hbw.trans ((Below.refl _ _).alloc (Nat.le_refl _) _ |>.mono hsz)⟩
              by_cases e : j = k
              · subst e
                rw [HR.out] at hr'
                injection hr' with hr'
                subst hr'
                rw [HNB.out, X0.out, X1.out]; rfl
              · exact HI.out j r' (by omega) hr'
            case measure => simp [intOf]; omega
        · obtain rfl : k = rs.length := by omega
          go_wp2_with fail
          go_ret
          exact ⟨ret_i (by rw [← HS.out, relS_good HV.out (by omega) (relsB_yes fun j r hj hr => HI.out j r hj hr)]), hbw⟩
set_option maxRecDepth 100000 in
set_option maxHeartbeats 2000000 in
theorem rcrel_any (A : Option Addr) (cap : Nat) (l : List MFrame) (G : Option Addr) (gcap : Nat) (rs : List MGate) (w : World) (h : FramesA w w.heap.size A l) (hG : GatesA w w.heap.size G rs) (hm : rs.length ≤ maxLen) {c : Int} (hc : relS l rs = c) :
    Calls Try.prog 80 #[.slice A l.length cap, .slice G rs.length gcap] w fun e w' => e = .returned (.int .i64 c) ∧ Below w.heap.size w w' := by
  have hC := rfcheck_any A cap l w h
  have hlen := h.1
  unfold maxLen at hlen hm
  rcases hv : framesB l
  · rw [relS_frames hv] at hc
    subst hc
    rw [fcheck_no hv] at hC
    have HC := Lib.hid hC
    clear hC hv
    go_enter Try.func80, Try.ntmps80
    go_wp2_with (go_at_call 23; refine HC.out.mono ?_; rintro e w1 ⟨rfl, hb1⟩)
    go_ret
    exact ⟨rfl, hb1⟩
  · rw [fcheck_yes hv] at hC
    have HC := Lib.hid hC
    have HV := Lib.hid hv
    have hl := (framesB_parts hv).1
    clear hC hv
    by_cases h5 : 500 < rs.length
    · rw [relS_many HV.out h5] at hc
      subst hc
      go_enter Try.func80, Try.ntmps80
      go_wp2_with (go_at_call 23; refine HC.out.mono ?_; rintro e w1 ⟨rfl, hb1⟩)
      go_ret
      exact ⟨rfl, hb1⟩
    · have HS := Lib.hid hc
      clear hc
      go_enter Try.func80, Try.ntmps80
      go_wp2_with (go_at_call 23; refine HC.out.mono ?_; rintro e w1 ⟨rfl, hb1⟩)
      go_loopw [6] (fun i wr => ∃ k : Nat, k ≤ rs.length ∧ i = .int .i64 k ∧ Hid (∀ (j : Nat) (r : MGate), j < k → rs[j]? = some r → relOk l.length r = true) ∧ Below w.heap.size w wr) (fun i _ => rs.length - (intOf i).toNat)
      case atStart => exact ⟨0, Nat.zero_le _, rfl, fun j r hj => by omega, hb1⟩
      case round =>
        obtain ⟨k, hk, rfl, HI, hbw⟩ := hrel
        have hsz := hbw.size
        by_cases hlt : k < rs.length
        · obtain ⟨r, b, off, hr, rfl, hbb, c0, c1⟩ := GatesA.at_ (SlA.below hG hbw (Nat.le_refl _)) hlt
          have HR := Lib.hid hr
          clear hr
          have HNB : Hid (relOk l.length r = (inB r.rate 0 ((l.length : Int) - 1) && inB r.delay 0 1000000)) := rfl
          rcases hx0 : inB r.rate 0 ((l.length : Int) - 1)
          · have X0 := Lib.hid hx0
            clear hx0
            go_wp2_with (first | (go_at_call 64; (with_reducible refine (rwithin_b r.rate _ _ _ _ X0.out).mono ?_); rintro e w' ⟨rfl, rfl⟩))
            go_ret
            exact ⟨ret_i (by rw [← HS.out, relS_bad HV.out (by omega) HR.out (by rw [HNB.out, X0.out]; rfl)]), hbw⟩
          rcases hx1 : inB r.delay 0 1000000
          all_goals
            have X0 := Lib.hid hx0
            have X1 := Lib.hid hx1
            clear hx0 hx1
            go_wp2_with (first | (go_at_call 64; (with_reducible refine (rwithin_b r.rate _ _ _ _ X0.out).mono ?_); rintro e w' ⟨rfl, rfl⟩) | (go_at_call 64; (with_reducible refine (rwithin_b r.delay _ _ _ _ X1.out).mono ?_); rintro e w' ⟨rfl, rfl⟩))
          · go_ret
            exact ⟨ret_i (by rw [← HS.out, relS_bad HV.out (by omega) HR.out (by rw [HNB.out, X0.out, X1.out]; rfl)]), hbw⟩
          · go_roundw
            case rel =>
              refine ⟨k + 1, by omega, by go_num, fun j r' hj hr' => ?_, hbw⟩
              by_cases e : j = k
              · subst e
                rw [HR.out] at hr'
                injection hr' with hr'
                subst hr'
                rw [HNB.out, X0.out, X1.out]; rfl
              · exact HI.out j r' (by omega) hr'
            case measure => simp [intOf]; omega
        · obtain rfl : k = rs.length := by omega
          go_wp2_with fail
          go_ret
          exact ⟨ret_i (by rw [← HS.out, relS_good HV.out (by omega) (relsB_yes fun j r hj hr => HI.out j r hj hr)]), hbw⟩

def beforeB (l : List MFrame) (a b : MGate) : Bool := if a.rate = b.rate then decide (a.delay < b.delay) else decide ((l.getD a.rate.toNat ⟨0, 0, 0, 0, 0⟩).rank < (l.getD b.rate.toNat ⟨0, 0, 0, 0, 0⟩).rank)
theorem before_same {l : List MFrame} {a b : MGate} (h : a.rate = b.rate) : beforeB l a b = decide (a.delay < b.delay) := by unfold beforeB; rw [if_pos h]
theorem before_other {l : List MFrame} {a b : MGate} {f g : MFrame} (h : a.rate ≠ b.rate) (hf : l[a.rate.toNat]? = some f) (hg : l[b.rate.toNat]? = some g) : beforeB l a b = decide (f.rank < g.rank) := by
  unfold beforeB
  rw [if_neg h, List.getD_eq_getElem?_getD, List.getD_eq_getElem?_getD, hf, hg]; rfl
theorem bdrw {B : Nat} {a w : World} (h : Below B a w) (n : Nat) : Below B a (w.drewN n) := ⟨h.os, h.tape, h.output, h.size, h.block⟩
def relV (r : MGate) : Value := .agg #[.int .i64 r.rate, .int .i64 r.delay]
set_option maxRecDepth 100000 in
set_option maxHeartbeats 2000000 in
theorem before_any (A : Option Addr) (cap : Nat) (l : List MFrame) (a b : MGate) (w : World) (h : FramesA w w.heap.size A l) (ha : 0 ≤ a.rate ∧ a.rate < l.length) (hb : 0 ≤ b.rate ∧ b.rate < l.length) {r : Bool} (hr : beforeB l a b = r) :
    Calls Try.prog 77 #[.slice A l.length cap, relV a, relV b] w fun e w' => e = .returned (.bool r) ∧ Below w.heap.size w w' := by
  have hlen := h.1
  unfold maxLen at hlen
  unfold relV
  by_cases e : a.rate = b.rate
  · rw [before_same e] at hr
    have HR := Lib.hid hr
    clear hr
    go_enter Try.func77, Try.ntmps77
    go_wp2_with fail
    go_ret
    exact ⟨ret_b HR.out, ((Below.refl _ _).alloc (Nat.le_refl _) _).alloc (by simp) _⟩
  · obtain ⟨f, ab, ao, hf, rfl, hab, _, _, _, _, ac⟩ := h.at_ (k := a.rate.toNat) (by omega)
    obtain ⟨g, bb, bo, hg, hA, hbb, _, _, _, _, bc⟩ := h.at_ (k := b.rate.toNat) (by omega)
    injection hA with hA
    injection hA with e1 e2
    subst e1
    subst e2
    rw [before_other e hf hg] at hr
    have HR := Lib.hid hr
    clear hr
    have hb2 : Below w.heap.size w ((w.alloc (.cells #[.int .i64 a.rate, .int .i64 a.delay] 63)).alloc (.cells #[.int .i64 b.rate, .int .i64 b.delay] 63)) := ((Below.refl _ _).alloc (Nat.le_refl _) _).alloc (by simp) _
    have ac2 := (bcell hb2 ab _ hab).trans ac
    have bc2 := (bcell hb2 ab _ hab).trans bc
    go_enter Try.func77, Try.ntmps77
    go_wp2_with fail
    go_quiet (fail)
    go_wp2_with fail
    go_ret
    exact ⟨ret_b HR.out, bdrw hb2 _⟩
end Go.Proofs.Ytlbbhlkbhegegaa

/- Plain: when releases keep the offsets; walks: slices.IndexFunc and ContainsFunc over ints at Keeps' closure. -/
namespace Go.Proofs.Ytlbbhlkbhegegaa
open Go.RowKit

def offB (x : Int) : Bool := inB x 0 1000000
theorem keeps1_b (x : Int) (w : World) {r : Bool} (hr : offB x = r) : Calls Try.prog 82 #[.int .i64 x] w fun e w' => e = .returned (.bool !r) ∧ Below w.heap.size w w' := by
  have hr' : inB x 0 1000000 = r := hr
  rcases r with _ | _
  all_goals
    have HR := Lib.hid hr'
    clear hr hr'
    go_enter Try.func82, Try.ntmps82
    go_wp2_with (go_at_call 67; refine (within_b x _ _ _ _ HR.out).mono ?_; rintro e w' ⟨rfl, rfl⟩)
    go_ret
    exact ⟨rfl, Below.refl _ _⟩

set_option maxRecDepth 100000 in
set_option maxHeartbeats 2000000 in
theorem indexOff_any (O : Option Addr) (cap : Nat) (os : List Int) (w : World) (h : IntsA w w.heap.size O os) :
    Calls Try.prog 109 #[.slice O os.length cap, .func (.func 82) #[] #[]] w fun e w' => ∃ i : Int, e = .returned (.int .i64 i) ∧ ((0 ≤ i ↔ os.all offB = false)) ∧ Below w.heap.size w w' := by
  have hlen := h.1
  unfold maxLen at hlen
  go_enter Try.func109, Try.ntmps109
  go_wp2_with fail
  go_loopw [8] (fun i wr => ∃ k : Nat, k ≤ os.length ∧ i = .int .i64 k ∧ Hid (∀ j, j < k → offB (os.getD j 0) = true) ∧ Below w.heap.size w wr) (fun i _ => os.length - (intOf i).toNat)
  case atStart => exact ⟨0, Nat.zero_le _, rfl, fun j hj => by omega, Below.refl _ _⟩
  case round =>
    obtain ⟨k, hk, rfl, HI, hbw⟩ := hrel
    have hsz := hbw.size
    by_cases hlt : k < os.length
    · obtain ⟨b, off, rfl, hb, hc⟩ := (h.below hbw (Nat.le_refl _)).at_ hlt
      have hg : os.getD k 0 = os[k] := by rw [List.getD_eq_getElem?_getD, List.getElem?_eq_getElem hlt]; rfl
      have HG := Lib.hid hg
      clear hg
      rcases hx : offB (os.getD k 0)
      all_goals
        have HX := Lib.hid hx
        generalize hov : os.getD k 0 = ov at *
        have HC := Lib.hid (keeps1_b ov wr hx)
        have HOV := Lib.hid hov
        clear hx hov
        go_wp2_with (go_at_call 82; refine HC.out.mono ?_; rintro e w2 ⟨rfl, hb2⟩)
      · go_ret
        refine ⟨k, rfl, ⟨fun _ => ?_, fun _ => by omega⟩, hbw.trans (hb2.mono hsz)⟩
        rw [List.all_eq_false]
        exact ⟨os[k], List.getElem_mem _, by rw [← HG.out]; simp [HX.out]⟩
      · go_roundw
        case rel => exact ⟨k + 1, by omega, by go_num, nat_snoc HI.out (by rw [HOV.out]; exact HX.out), hbw.trans (hb2.mono hsz)⟩
        case measure => simp [intOf]; omega
    · obtain rfl : k = os.length := by omega
      go_wp2_with fail
      go_ret
      refine ⟨-1, rfl, ⟨fun h => by omega, fun h => ?_⟩, hbw⟩
      rw [List.all_eq_false] at h
      obtain ⟨x, hx, hn⟩ := h
      obtain ⟨j, hj, rfl⟩ := List.mem_iff_getElem.1 hx
      have := HI.out j hj
      rw [List.getD_eq_getElem?_getD, List.getElem?_eq_getElem hj] at this
      exact absurd this hn
theorem containsOff_b (O : Option Addr) (cap : Nat) (os : List Int) (w : World) (h : IntsA w w.heap.size O os) {b : Bool} (he : os.all offB = b) :
    Calls Try.prog 81 #[.slice O os.length cap, .func (.func 82) #[] #[]] w fun e w' => e = .returned (.bool !b) ∧ Below w.heap.size w w' := by
  have HC := Lib.hid (indexOff_any O cap os w h)
  have HE := Lib.hid he
  clear he
  go_enter Try.func81, Try.ntmps81
  go_wp2_with (go_at_call 109; refine HC.out.mono ?_; rintro e w2 ⟨i, rfl, hi, hb2⟩; have HI := Lib.hid hi; clear hi)
  go_ret
  refine ⟨ret_b ?_, hb2⟩
  rcases b with _ | _
  · exact decide_eq_true (HI.out.2 HE.out)
  · exact decide_eq_false fun h => by have := HI.out.1 h; rw [HE.out] at this; cases this
end Go.Proofs.Ytlbbhlkbhegegaa
