/- Releases as plain data; walks: bus.checkReleases, ignitionref04.checkPlay, bus.before. -/
import Derived.Test.YtlbbhlkbhegegaaF2
namespace Go.Proofs.Ytlbbhlkbhegegaa
open Go.RowKit

/-! ### releases: `rate` is the frame, `delay` the time -/
def relOk (n : Nat) (r : MGate) : Bool := inB r.rate 0 ((n : Int) - 1) && inB r.delay 0 1000000
def relsB (n : Nat) (rs : List MGate) : Bool := rs.all (relOk n)
def relS (l : List MFrame) (rs : List MGate) : Int := if framesB l = false then 40 else if 500 < rs.length then 2 else if relsB l.length rs = true then 0 else 1
theorem relS_frames {l : List MFrame} {rs : List MGate} (h : framesB l = false) : relS l rs = 40 := by unfold relS; rw [if_pos h]
theorem relS_many {l : List MFrame} {rs : List MGate} (h : framesB l = true) (h1 : 500 < rs.length) : relS l rs = 2 := by unfold relS; rw [if_neg (by rw [h]; simp), if_pos h1]
theorem relS_bad {l : List MFrame} {rs : List MGate} (h : framesB l = true) (h1 : rs.length ≤ 500) {k : Nat} {r : MGate} (hk : rs[k]? = some r) (hr : relOk l.length r = false) : relS l rs = 1 := by
  have h2 : relsB l.length rs = false := by
    unfold relsB
    rw [List.all_eq_false]
    exact ⟨r, List.mem_of_getElem? hk, by simp [hr]⟩
  unfold relS
  rw [if_neg (by rw [h]; simp), if_neg (by omega), if_neg (by rw [h2]; simp)]
theorem relsB_yes {n : Nat} {rs : List MGate} (h : ∀ (k : Nat) (r : MGate), k < rs.length → rs[k]? = some r → relOk n r = true) : relsB n rs = true := by
  unfold relsB
  rw [List.all_eq_true]
  intro r hr
  obtain ⟨k, hk, rfl⟩ := List.mem_iff_getElem.1 hr
  exact h k _ hk (List.getElem?_eq_getElem hk)
theorem relS_good {l : List MFrame} {rs : List MGate} (h : framesB l = true) (h1 : rs.length ≤ 500) (h2 : relsB l.length rs = true) : relS l rs = 0 := by
  unfold relS
  rw [if_neg (by rw [h]; simp), if_neg (by omega), if_pos h2]
theorem relS_parts {l : List MFrame} {rs : List MGate} (h : relS l rs = 0) : framesB l = true ∧ rs.length ≤ 500 ∧ relsB l.length rs = true := by
  unfold relS at h
  rcases hv : framesB l
  · rw [if_pos hv] at h; cases h
  · rw [if_neg (by rw [hv]; simp)] at h
    by_cases h5 : 500 < rs.length
    · rw [if_pos h5] at h; cases h
    · rw [if_neg h5] at h
      rcases hb : relsB l.length rs
      · rw [if_neg (by rw [hb]; simp)] at h; cases h
      · exact ⟨rfl, by omega, rfl⟩
theorem relsB_at {n : Nat} {rs : List MGate} (h : relsB n rs = true) {k : Nat} {r : MGate} (hk : rs[k]? = some r) : (0 ≤ r.rate ∧ r.rate < n) ∧ 0 ≤ r.delay ∧ r.delay ≤ 1000000 := by
  unfold relsB at h
  rw [List.all_eq_true] at h
  have h1 := h r (List.mem_of_getElem? hk)
  unfold relOk at h1
  rw [Bool.and_eq_true, inB_iff', inB_iff'] at h1
  omega

set_option maxRecDepth 100000 in
set_option maxHeartbeats 2000000 in
theorem crel_any (A : Option Addr) (cap : Nat) (l : List MFrame) (G : Option Addr) (gcap : Nat) (rs : List MGate) (w : World) (h : FramesA w w.heap.size A l) (hcap : l.length ≤ cap) (hG : GatesA w w.heap.size G rs) (hm : rs.length ≤ maxLen) {c : Int} (hc : relS l rs = c) :
    Calls Try.prog 76 #[.slice A l.length cap, .slice G rs.length gcap] w fun e w' => e = .returned (.int .i64 c) ∧ Below w.heap.size w w' := by
  have hC := fcheck_any A cap l w h hcap
  have hlen := h.1
  unfold maxLen at hlen hm
  rcases hv : framesB l
  · rw [relS_frames hv] at hc
    subst hc
    rw [fcheck_no hv] at hC
    have HC := Lib.hid hC
    clear hC hv
    go_enter Try.func76, Try.ntmps76
    go_wp2_with (go_at_call 37; refine HC.out.mono ?_; rintro e w1 ⟨rfl, hb1⟩)
    go_ret
    exact ⟨rfl, hb1⟩
  · rw [fcheck_yes hv] at hC
    have HC := Lib.hid hC
    have HV := Lib.hid hv
    have hl := (framesB_parts hv).1
    clear hC hv
    by_cases h5 : 500 < rs.length
    · rw [relS_many HV.out h5] at hc
      subst hc
      go_enter Try.func76, Try.ntmps76
      go_wp2_with (go_at_call 37; refine HC.out.mono ?_; rintro e w1 ⟨rfl, hb1⟩)
      go_ret
      exact ⟨rfl, hb1⟩
    · have HS := Lib.hid hc
      clear hc
      go_enter Try.func76, Try.ntmps76
      go_wp2_with (go_at_call 37; refine HC.out.mono ?_; rintro e w1 ⟨rfl, hb1⟩)
      go_loopw [18] (fun i wr => ∃ k : Nat, k ≤ rs.length ∧ i = .int .i64 k ∧ Hid (∀ (j : Nat) (r : MGate), j < k → rs[j]? = some r → relOk l.length r = true) ∧ Below w.heap.size w wr) (fun i _ => rs.length - (intOf i).toNat)
      case atStart => exact ⟨0, Nat.zero_le _, rfl, fun j r hj => by omega, hb1⟩
      case round =>
        obtain ⟨k, hk, rfl, HI, hbw⟩ := hrel
        have hsz := hbw.size
        by_cases hlt : k < rs.length
        · obtain ⟨r, b, off, hr, rfl, hbb, c0, c1⟩ := GatesA.at_ (SlA.below hG hbw (Nat.le_refl _)) hlt
          have HR := Lib.hid hr
          clear hr
          have HNB : Hid (relOk l.length r = (inB r.rate 0 ((l.length : Int) - 1) && inB r.delay 0 1000000)) := rfl
          rcases hx0 : inB r.rate 0 ((l.length : Int) - 1)
          · have X0 := Lib.hid hx0
            clear hx0
            go_wp2_with (first | (go_at_call 67; (with_reducible refine (within_b r.rate _ _ _ _ X0.out).mono ?_); rintro e w' ⟨rfl, rfl⟩))
            go_ret
            exact ⟨ret_i (by rw [← HS.out, relS_bad HV.out (by omega) HR.out (by rw [HNB.out, X0.out]; rfl)]), hbw.trans ((Below.refl _ _).alloc (Nat.le_refl _) _ |>.mono hsz)⟩
          rcases hx1 : inB r.delay 0 1000000
          all_goals
            have X0 := Lib.hid hx0
            have X1 := Lib.hid hx1
            clear hx0 hx1
            go_wp2_with (first | (go_at_call 67; (with_reducible refine (within_b r.rate _ _ _ _ X0.out).mono ?_); rintro e w' ⟨rfl, rfl⟩) | (go_at_call 67; (with_reducible refine (within_b r.delay _ _ _ _ X1.out).mono ?_); rintro e w' ⟨rfl, rfl⟩))
          · go_ret
            exact ⟨ret_i (by rw [← HS.out, relS_bad HV.out (by omega) HR.out (by rw [HNB.out, X0.out, X1.out]; rfl)]), hbw.trans ((Below.refl _ _).alloc (Nat.le_refl _) _ |>.mono hsz)⟩
          · go_roundw
            case rel =>
              refine ⟨k + 1, by omega, by go_num, fun j r' hj hr' => ?_, hbw.trans ((Below.refl _ _).alloc (Nat.le_refl _) _ |>.mono hsz)⟩
              by_cases e : j = k
              · subst e
                rw [HR.out] at hr'
                injection hr' with hr'
                subst hr'
                rw [HNB.out, X0.out, X1.out]; rfl
              · exact HI.out j r' (by omega) hr'
            case measure => simp [intOf]; omega
        · obtain rfl : k = rs.length := by omega
          go_wp2_with fail
          go_ret
          exact ⟨ret_i (by rw [← HS.out, relS_good HV.out (by omega) (relsB_yes fun j r hj hr => HI.out j r hj hr)]), hbw⟩
set_option maxRecDepth 100000 in
set_option maxHeartbeats 2000000 in
theorem rcrel_any (A : Option Addr) (cap : Nat) (l : List MFrame) (G : Option Addr) (gcap : Nat) (rs : List MGate) (w : World) (h : FramesA w w.heap.size A l) (hG : GatesA w w.heap.size G rs) (hm : rs.length ≤ maxLen) {c : Int} (hc : relS l rs = c) :
    Calls Try.prog 80 #[.slice A l.length cap, .slice G rs.length gcap] w fun e w' => e = .returned (.int .i64 c) ∧ Below w.heap.size w w' := by
  have hC := rfcheck_any A cap l w h
  have hlen := h.1
  unfold maxLen at hlen hm
  rcases hv : framesB l
  · rw [relS_frames hv] at hc
    subst hc
    rw [fcheck_no hv] at hC
    have HC := Lib.hid hC
    clear hC hv
    go_enter Try.func80, Try.ntmps80
    go_wp2_with (go_at_call 23; refine HC.out.mono ?_; rintro e w1 ⟨rfl, hb1⟩)
    go_ret
    exact ⟨rfl, hb1⟩
  · rw [fcheck_yes hv] at hC
    have HC := Lib.hid hC
    have HV := Lib.hid hv
    have hl := (framesB_parts hv).1
    clear hC hv
    by_cases h5 : 500 < rs.length
    · rw [relS_many HV.out h5] at hc
      subst hc
      go_enter Try.func80, Try.ntmps80
      go_wp2_with (go_at_call 23; refine HC.out.mono ?_; rintro e w1 ⟨rfl, hb1⟩)
      go_ret
      exact ⟨rfl, hb1⟩
    · have HS := Lib.hid hc
      clear hc
      go_enter Try.func80, Try.ntmps80
      go_wp2_with (go_at_call 23; refine HC.out.mono ?_; rintro e w1 ⟨rfl, hb1⟩)
      go_loopw [6] (fun i wr => ∃ k : Nat, k ≤ rs.length ∧ i = .int .i64 k ∧ Hid (∀ (j : Nat) (r : MGate), j < k → rs[j]? = some r → relOk l.length r = true) ∧ Below w.heap.size w wr) (fun i _ => rs.length - (intOf i).toNat)
      case atStart => exact ⟨0, Nat.zero_le _, rfl, fun j r hj => by omega, hb1⟩
      case round =>
        obtain ⟨k, hk, rfl, HI, hbw⟩ := hrel
        have hsz := hbw.size
        by_cases hlt : k < rs.length
        · obtain ⟨r, b, off, hr, rfl, hbb, c0, c1⟩ := GatesA.at_ (SlA.below hG hbw (Nat.le_refl _)) hlt
          have HR := Lib.hid hr
          clear hr
          have HNB : Hid (relOk l.length r = (inB r.rate 0 ((l.length : Int) - 1) && inB r.delay 0 1000000)) := rfl
          rcases hx0 : inB r.rate 0 ((l.length : Int) - 1)
          · have X0 := Lib.hid hx0
            clear hx0
            go_wp2_with (first | (go_at_call 64; (with_reducible refine (rwithin_b r.rate _ _ _ _ X0.out).mono ?_); rintro e w' ⟨rfl, rfl⟩))
            go_ret
            exact ⟨ret_i (by rw [← HS.out, relS_bad HV.out (by omega) HR.out (by rw [HNB.out, X0.out]; rfl)]), hbw⟩
          rcases hx1 : inB r.delay 0 1000000
          all_goals
            have X0 := Lib.hid hx0
            have X1 := Lib.hid hx1
            clear hx0 hx1
            go_wp2_with (first | (go_at_call 64; (with_reducible refine (rwithin_b r.rate _ _ _ _ X0.out).mono ?_); rintro e w' ⟨rfl, rfl⟩) | (go_at_call 64; (with_reducible refine (rwithin_b r.delay _ _ _ _ X1.out).mono ?_); rintro e w' ⟨rfl, rfl⟩))
          · go_ret
            exact ⟨ret_i (by rw [← HS.out, relS_bad HV.out (by omega) HR.out (by rw [HNB.out, X0.out, X1.out]; rfl)]), hbw⟩
          · go_roundw
            case rel =>
              refine ⟨k + 1, by omega, by go_num, fun j r' hj hr' => ?_, hbw⟩
              by_cases e : j = k
              · subst e
                rw [HR.out] at hr'
                injection hr' with hr'
                subst hr'
                rw [HNB.out, X0.out, X1.out]; rfl
              · exact HI.out j r' (by omega) hr'
            case measure => simp [intOf]; omega
        · obtain rfl : k = rs.length := by omega
          go_wp2_with fail
          go_ret
          exact ⟨ret_i (by rw [← HS.out, relS_good HV.out (by omega) (relsB_yes fun j r hj hr => HI.out j r hj hr)]), hbw⟩

def beforeB (l : List MFrame) (a b : MGate) : Bool := if a.rate = b.rate then decide (a.delay < b.delay) else decide ((l.getD a.rate.toNat ⟨0, 0, 0, 0, 0⟩).rank < (l.getD b.rate.toNat ⟨0, 0, 0, 0, 0⟩).rank)
theorem before_same {l : List MFrame} {a b : MGate} (h : a.rate = b.rate) : beforeB l a b = decide (a.delay < b.delay) := by unfold beforeB; rw [if_pos h]
theorem before_other {l : List MFrame} {a b : MGate} {f g : MFrame} (h : a.rate ≠ b.rate) (hf : l[a.rate.toNat]? = some f) (hg : l[b.rate.toNat]? = some g) : beforeB l a b = decide (f.rank < g.rank) := by
  unfold beforeB
  rw [if_neg h, List.getD_eq_getElem?_getD, List.getD_eq_getElem?_getD, hf, hg]; rfl
theorem bdrw {B : Nat} {a w : World} (h : Below B a w) (n : Nat) : Below B a (w.drewN n) := ⟨h.os, h.tape, h.output, h.size, h.block⟩
def relV (r : MGate) : Value := .agg #[.int .i64 r.rate, .int .i64 r.delay]
set_option maxRecDepth 100000 in
set_option maxHeartbeats 2000000 in
theorem before_any (A : Option Addr) (cap : Nat) (l : List MFrame) (a b : MGate) (w : World) (h : FramesA w w.heap.size A l) (ha : 0 ≤ a.rate ∧ a.rate < l.length) (hb : 0 ≤ b.rate ∧ b.rate < l.length) {r : Bool} (hr : beforeB l a b = r) :
    Calls Try.prog 77 #[.slice A l.length cap, relV a, relV b] w fun e w' => e = .returned (.bool r) ∧ Below w.heap.size w w' := by
  have hlen := h.1
  unfold maxLen at hlen
  unfold relV
  by_cases e : a.rate = b.rate
  · rw [before_same e] at hr
    have HR := Lib.hid hr
    clear hr
    go_enter Try.func77, Try.ntmps77
    go_wp2_with fail
    go_ret
    exact ⟨ret_b HR.out, ((Below.refl _ _).alloc (Nat.le_refl _) _).alloc (by simp) _⟩
  · obtain ⟨f, ab, ao, hf, rfl, hab, _, _, _, _, ac⟩ := h.at_ (k := a.rate.toNat) (by omega)
    obtain ⟨g, bb, bo, hg, hA, hbb, _, _, _, _, bc⟩ := h.at_ (k := b.rate.toNat) (by omega)
    injection hA with hA
    injection hA with e1 e2
    subst e1
    subst e2
    rw [before_other e hf hg] at hr
    have HR := Lib.hid hr
    clear hr
    have hb2 : Below w.heap.size w ((w.alloc (.cells #[.int .i64 a.rate, .int .i64 a.delay] 63)).alloc (.cells #[.int .i64 b.rate, .int .i64 b.delay] 63)) := ((Below.refl _ _).alloc (Nat.le_refl _) _).alloc (by simp) _
    have ac2 := (bcell hb2 ab _ hab).trans ac
    have bc2 := (bcell hb2 ab _ hab).trans bc
    go_enter Try.func77, Try.ntmps77
    go_wp2_with fail
    go_quiet (fail)
    go_wp2_with fail
    go_ret
    exact ⟨ret_b HR.out, bdrw hb2 _⟩
end Go.Proofs.Ytlbbhlkbhegegaa
