/- Walks: ignitionref04.busy, wait. -/
import Derived.Test.YtlbbhlkbhegegaaF2
import Derived.Test.YtlbbhlkbhegegaaR5
namespace Go.Proofs.Ytlbbhlkbhegegaa
open Go.RowKit

theorem bdrew {B : Nat} {a w : World} (h : Below B a w) (n : Nat) : Below B a (w.drewN n) := ⟨h.os, h.tape, h.output, h.size, h.block⟩
theorem rup_q (n b r : Int) (w : World) (h0 : 0 ≤ n) (h1 : n ≤ 1000000000000000) (h2 : 1 ≤ b) (h3 : b ≤ 1000000000000000) (hr : (n + b - 1) / b = r) :
    Calls Try.prog 62 #[.int .i64 n, .int .i64 b] w fun e w' => e = .returned (.int .i64 r) ∧ w = w' := hr ▸ rup_any n b w h0 h1 h2 h3
def leB (l : List MFrame) (r : Int) (j : Nat) : Bool := decide ((l.getD j ⟨0, 0, 0, 0, 0⟩).rank ≤ r)
def ltB (l : List MFrame) (r : Int) (j : Nat) : Bool := decide ((l.getD j ⟨0, 0, 0, 0, 0⟩).rank < r)
theorem leB_of {l : List MFrame} {j : Nat} {f : MFrame} {r : Int} (h : l[j]? = some f) : leB l r j = decide (f.rank ≤ r) := by
  unfold leB; rw [List.getD_eq_getElem?_getD, h]; rfl
theorem ltB_of {l : List MFrame} {j : Nat} {f : MFrame} {r : Int} (h : l[j]? = some f) : ltB l r j = decide (f.rank < r) := by
  unfold ltB; rw [List.getD_eq_getElem?_getD, h]; rfl
/-- two frames of one list, in one world -/
theorem FramesA.two {w : World} {B : Nat} {A : Option Addr} {l : List MFrame} (h : FramesA w B A l) {k i : Nat} (hk : k < l.length) {own : MFrame} (hi : l[i]? = some own) (hil : i < l.length) :
    ∃ f b off, l[k]? = some f ∧ A = some ⟨b, off, none⟩ ∧ b < B ∧ w.cell? ⟨b, off + k * 5, none⟩ = some (.int .i64 f.size) ∧ w.cell? ⟨b, off + k * 5 + 1, none⟩ = some (.int .i64 f.every) ∧
      w.cell? ⟨b, off + k * 5 + 2, none⟩ = some (.int .i64 f.jitter) ∧ w.cell? ⟨b, off + k * 5 + 4, none⟩ = some (.int .i64 f.rank) ∧ w.cell? ⟨b, off + i * 5 + 4, none⟩ = some (.int .i64 own.rank) := by
  obtain ⟨f, b, off, hf, rfl, hb, c0, c1, c2, c3, c4⟩ := h.at_ hk
  obtain ⟨g, b', off', hg, he, _, d0, d1, d2, d3, d4⟩ := h.at_ hil
  rw [hi] at hg
  injection hg with hg
  injection he with he
  injection he with he1 he2
  subst hg
  subst he1
  subst he2
  exact ⟨f, b, off, hf, rfl, hb, c0, c1, c2, c4, d4⟩

set_option maxRecDepth 100000 in
set_option maxHeartbeats 1000000 in
theorem rbusy_any (A : Option Addr) (cap : Nat) (l : List MFrame) (i : Nat) (own : MFrame) (b t : Int) (w : World) (h : FramesA w w.heap.size A l) (hF : ∀ (k : Nat) (f : MFrame), l[k]? = some f → FOk f) (hl : l.length ≤ 40) (hi : l[i]? = some own) (hil : i < l.length) (hB : 0 ≤ b ∧ b ≤ 1000) (hT : 0 ≤ t ∧ t ≤ 100000000)
    {r : Int} (hr : b + loadTo l (leB l own.rank) (manyUp t) l.length = r) :
    Calls Try.prog 102 #[.slice A l.length cap, .int .i64 i, .int .i64 b, .int .i64 t] w fun e w' => e = .returned (.int .i64 r) ∧ Below w.heap.size w w' := by
  have HF := Lib.hid hF
  have HI := Lib.hid hi
  have HR := Lib.hid hr
  clear hF hi hr
  go_enter Try.func102, Try.ntmps102
  go_wp2_with fail
  go_loopw [9, 10] (fun s v wr => ∃ k : Nat, k ≤ l.length ∧ v = .int .i64 k ∧ s = .int .i64 (b + loadTo l (leB l own.rank) (manyUp t) k) ∧ Below w.heap.size w wr) (fun _ v _ => l.length - (intOf v).toNat)
  case atStart => exact ⟨0, Nat.zero_le _, rfl, by simp [loadTo], Below.refl _ _⟩
  case round =>
    obtain ⟨k, hk, rfl, rfl, hbw⟩ := hrel
    have hbd := loadTo_bd (ab := leB l own.rank) (F := manyUp t) hl (fun k f hf => ⟨manyUp_bd (HF.out k f hf) hT, (HF.out k f hf).1⟩) k hk
    by_cases hlt : k < l.length
    · obtain ⟨f, bb, off, hf, rfl, hbb', c0, c1, c2, c4, d4⟩ := (h.keep hbw).two hlt HI.out hil
      have HSU := Lib.hid (loadTo_succ (ab := leB l own.rank) (F := manyUp t) hf)
      have HAB := Lib.hid (leB_of (r := own.rank) hf)
      have hfo := HF.out k f hf
      have hfm := manyUp_bd hfo hT
      have hsize := hfo.1
      have hev := hfo.2.1
      have hji := hfo.2.2.2.1
      have HFf := Lib.hid hf
      clear hf hfo
      generalize loadTo l (leB l own.rank) (manyUp t) k = S at *
      by_cases hle : f.rank ≤ own.rank
      · have HX : Hid (leB l own.rank k = true) := by show _ = _; rw [HAB.out]; exact decide_eq_true hle
        go_wp2_with fail
        go_quiet (fail)
        have hbq := bdrew hbw nq
        generalize wr.drewN nq = w2 at *
        clear c0 c1 c2 c4 d4 HAB
        obtain ⟨g, b2, off2, hg, he, hbb2, c0, c1, c2, c4, d4⟩ := (h.keep hbq).two hlt HI.out hil
        rw [HFf.out] at hg
        injection hg with hg
        injection he with he
        injection he with he1 he2
        subst hg
        subst he1
        subst he2
        clear c4 d4
        have HM : Hid ((t + f.jitter + f.every - 1) / f.every = manyUp t f) := rfl
        have hmul : 0 ≤ manyUp t f * f.size ∧ manyUp t f * f.size ≤ 200000000000 := by
          constructor
          · exact Int.mul_nonneg hfm.1 (by omega)
          · have := Int.mul_le_mul hfm.2 hsize.2 (by omega) (by omega)
            omega
        generalize manyUp t f = M at *
        have hC : Hid (∀ n, Calls Try.prog 62 #[.int .i64 (t + f.jitter), .int .i64 f.every] (w2.drewN n) fun e w' => e = .returned (.int .i64 M) ∧ w2.drewN n = w') := fun n => rup_q _ _ _ _ (by omega) (by omega) (by omega) (by omega) HM.out
        go_wp2_with fail
        have e0 : IntKind.i64.wrap (t + f.jitter) = t + f.jitter := IntWalk.i64_in _ (by omega)
        have e1 : IntKind.i64.wrap (M * f.size) = M * f.size := IntWalk.i64_in _ (by omega)
        have e2 : IntKind.i64.wrap (b + S + M * f.size) = b + S + M * f.size := IntWalk.i64_in _ (by omega)
        go_quiet ((go_at_call 62; exact quiet_w (hC.out _)))
        clear e0 e1 e2
        go_wp2_with fail
        go_roundw
        case rel => exact ⟨k + 1, by omega, by go_num, int_c (by rw [HSU.out, HX.out, if_pos rfl]; omega), bdrew hbq _⟩
        case measure => simp [intOf]; omega
      · have HX : Hid (leB l own.rank k = false) := by show _ = _; rw [HAB.out]; exact decide_eq_false hle
        have hgt : own.rank < f.rank := by omega
        go_wp2_with fail
        go_quiet (fail)
        go_wp2_with fail
        go_roundw
        case rel => exact ⟨k + 1, by omega, by go_num, int_c (by rw [HSU.out, HX.out]; simp), bdrew hbw _⟩
        case measure => simp [intOf]; omega
    · obtain rfl : k = l.length := by omega
      go_wp2_with fail
      go_ret
      exact ⟨ret_i HR.out, hbw⟩
/-- the size of a frame of the list, and another frame -/
theorem FramesA.sizeAt {w : World} {B : Nat} {A : Option Addr} {l : List MFrame} (h : FramesA w B A l) {i : Nat} {own : MFrame} (hi : l[i]? = some own) (hil : i < l.length) :
    ∃ b off, A = some ⟨b, off, none⟩ ∧ b < B ∧ w.cell? ⟨b, off + i * 5, none⟩ = some (.int .i64 own.size) ∧ w.cell? ⟨b, off + i * 5 + 1, none⟩ = some (.int .i64 own.every) ∧ w.cell? ⟨b, off + i * 5 + 2, none⟩ = some (.int .i64 own.jitter) ∧
      w.cell? ⟨b, off + i * 5 + 3, none⟩ = some (.int .i64 own.due) ∧ w.cell? ⟨b, off + i * 5 + 4, none⟩ = some (.int .i64 own.rank) := by
  obtain ⟨g, b', off', hg, he, hb, d0, d1, d2, d3, d4⟩ := h.at_ hil
  rw [hi] at hg
  injection hg with hg
  subst hg
  exact ⟨b', off', he, hb, d0, d1, d2, d3, d4⟩
set_option maxRecDepth 100000 in
set_option maxHeartbeats 1000000 in
theorem rwait_any (A : Option Addr) (cap : Nat) (l : List MFrame) (i : Nat) (own : MFrame) (b q t : Int) (w : World) (h : FramesA w w.heap.size A l) (hF : ∀ (k : Nat) (f : MFrame), l[k]? = some f → FOk f) (hl : l.length ≤ 40) (hi : l[i]? = some own) (hil : i < l.length) (hB : 0 ≤ b ∧ b ≤ 1000) (hQ : 0 ≤ q ∧ q ≤ 10000000) (hT : 0 ≤ t ∧ t ≤ 100000000)
    {r : Int} (hr : b + q * own.size + loadTo l (ltB l own.rank) (manyAt t) l.length = r) :
    Calls Try.prog 103 #[.slice A l.length cap, .int .i64 i, .int .i64 b, .int .i64 q, .int .i64 t] w fun e w' => e = .returned (.int .i64 r) ∧ Below w.heap.size w w' := by
  have HF := Lib.hid hF
  have HI := Lib.hid hi
  have HR := Lib.hid hr
  have hos := (hF i own hi).1
  have hqs : 0 ≤ q * own.size ∧ q * own.size ≤ 10000000000 := by
    constructor
    · exact Int.mul_nonneg hQ.1 (by omega)
    · have := Int.mul_le_mul hQ.2 hos.2 (by omega) (by omega)
      omega
  obtain ⟨ob, oo, rfl, hob, o0, _⟩ := h.sizeAt hi hil
  clear hF hi hr
  go_enter Try.func103, Try.ntmps103
  go_wp2_with fail
  generalize q * own.size = qs at *
  clear o0
  go_loopw [11, 12] (fun s v wr => ∃ k : Nat, k ≤ l.length ∧ v = .int .i64 k ∧ s = .int .i64 (b + qs + loadTo l (ltB l own.rank) (manyAt t) k) ∧ Below w.heap.size w wr) (fun _ v _ => l.length - (intOf v).toNat)
  case atStart => exact ⟨0, Nat.zero_le _, rfl, by simp [loadTo], Below.refl _ _⟩
  case round =>
    obtain ⟨k, hk, rfl, rfl, hbw⟩ := hrel
    have hbd := loadTo_bd (ab := ltB l own.rank) (F := manyAt t) hl (fun k f hf => ⟨manyAt_bd (HF.out k f hf) hT, (HF.out k f hf).1⟩) k hk
    by_cases hlt : k < l.length
    · obtain ⟨f, bb, off, hf, he, hbb', c0, c1, c2, c4, d4⟩ := (h.keep hbw).two hlt HI.out hil
      injection he with he
      injection he with he1 he2
      subst he1
      subst he2
      have HSU := Lib.hid (loadTo_succ (ab := ltB l own.rank) (F := manyAt t) hf)
      have HAB := Lib.hid (ltB_of (r := own.rank) hf)
      have hfo := HF.out k f hf
      have hfm := manyAt_bd hfo hT
      have hsize := hfo.1
      have hev := hfo.2.1
      have hji := hfo.2.2.2.1
      have HFf := Lib.hid hf
      clear hf hfo
      generalize loadTo l (ltB l own.rank) (manyAt t) k = S at *
      by_cases hle : f.rank < own.rank
      · have HX : Hid (ltB l own.rank k = true) := by show _ = _; rw [HAB.out]; exact decide_eq_true hle
        go_wp2_with fail
        go_quiet (fail)
        have hbq := bdrew hbw nq
        generalize wr.drewN nq = w2 at *
        clear c0 c1 c2 c4 d4 HAB
        obtain ⟨g, b2, off2, hg, he, hbb2, c0, c1, c2, c4, d4⟩ := (h.keep hbq).two hlt HI.out hil
        rw [HFf.out] at hg
        injection hg with hg
        injection he with he
        injection he with he1 he2
        subst hg
        subst he1
        subst he2
        clear c4 d4
        have HM : Hid ((t + f.jitter) / f.every + 1 = manyAt t f) := rfl
        have hmul : 0 ≤ ((t + f.jitter) / f.every + 1) * f.size ∧ ((t + f.jitter) / f.every + 1) * f.size ≤ 200000000000 := by
          rw [HM.out]
          constructor
          · exact Int.mul_nonneg hfm.1 (by omega)
          · have := Int.mul_le_mul hfm.2 hsize.2 (by omega) (by omega)
            omega
        have hdv : 0 ≤ (t + f.jitter) / f.every ∧ (t + f.jitter) / f.every ≤ 200000000 := ⟨Int.ediv_nonneg (by omega) (by omega), by have := Int.ediv_le_self (a := t + f.jitter) f.every (by omega); omega⟩
        have hee : (t + f.jitter).tdiv f.every = (t + f.jitter) / f.every := Int.tdiv_eq_ediv_of_nonneg (by omega)
        clear hfm
        generalize (t + f.jitter) / f.every = D at *
        go_wp2_with fail
        have e0 : IntKind.i64.wrap (t + f.jitter) = t + f.jitter := IntWalk.i64_in _ (by omega)
        have hev0 : (f.every == 0) = false := by rw [beq_eq_false_iff_ne]; omega
        have e3 : IntKind.i64.wrap D = D := IntWalk.i64_in _ (by omega)
        have e4 : IntKind.i64.wrap (D + 1) = D + 1 := IntWalk.i64_in _ (by omega)
        have e1 : IntKind.i64.wrap ((D + 1) * f.size) = (D + 1) * f.size := IntWalk.i64_in _ (by omega)
        have e2 : IntKind.i64.wrap (b + qs + S + (D + 1) * f.size) = b + qs + S + (D + 1) * f.size := IntWalk.i64_in _ (by omega)
        go_quiet (fail)
        clear e0 e1 e2 e3 e4 hev0 hee
        go_wp2_with fail
        go_roundw
        case rel => exact ⟨k + 1, by omega, by go_num, int_c (by rw [HSU.out, HX.out, if_pos rfl, ← HM.out]; omega), bdrew hbq _⟩
        case measure => simp [intOf]; omega
      · have HX : Hid (ltB l own.rank k = false) := by show _ = _; rw [HAB.out]; exact decide_eq_false hle
        have hgt : own.rank ≤ f.rank := by omega
        go_wp2_with fail
        go_quiet (fail)
        go_wp2_with fail
        go_roundw
        case rel => exact ⟨k + 1, by omega, by go_num, int_c (by rw [HSU.out, HX.out]; simp), bdrew hbw _⟩
        case measure => simp [intOf]; omega
    · obtain rfl : k = l.length := by omega
      go_wp2_with fail
      go_ret
      exact ⟨ret_i HR.out, hbw⟩
end Go.Proofs.Ytlbbhlkbhegegaa
