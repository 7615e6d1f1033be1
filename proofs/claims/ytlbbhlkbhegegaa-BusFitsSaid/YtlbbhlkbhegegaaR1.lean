/- Walks: the closures of bus.response. -/
import Derived.Test.YtlbbhlkbhegegaaF1
import Derived.Test.YtlbbhlkbhegegaaOwn
import Derived.Test.YtlbbhlkbhegegaaQb
namespace Go.Proofs.Ytlbbhlkbhegegaa
open Go.RowKit

def manyUp (t : Int) (f : MFrame) : Int := (t + f.jitter + f.every - 1) / f.every
def manyAt (t : Int) (f : MFrame) : Int := (t + f.jitter) / f.every + 1
def FOk (f : MFrame) : Prop := (1 ≤ f.size ∧ f.size ≤ 1000) ∧ (1 ≤ f.every ∧ f.every ≤ 100000) ∧ (1 ≤ f.due ∧ f.due ≤ 100000) ∧ (0 ≤ f.jitter ∧ f.jitter ≤ 100000) ∧ (-1 ≤ f.rank ∧ f.rank ≤ 1000)
theorem many99 (f : MFrame) (tb : Nat) (t : Int) (w : World) (hf : FOk f) (ht : 0 ≤ t ∧ t ≤ 100000000) (hb : tb < w.heap.size) (hc : w.cell? ⟨tb, 0, none⟩ = some (.int .i64 t)) :
    Calls Try.prog 99 #[frameV f, .pointer (some ⟨tb, 0, none⟩)] w fun e w' => e = .returned (.int .i64 (manyUp t f)) ∧ Below w.heap.size w w' := by
  unfold frameV manyUp
  obtain ⟨_, h2, _, h4, _⟩ := hf
  go_enter Try.func99, Try.ntmps99
  go_wp2_with (go_at_call 60; refine (up_any _ _ _ (by omega) (by omega) (by omega) (by omega)).mono ?_; rintro e w' ⟨rfl, rfl⟩)
  go_ret
  exact ⟨rfl, (Below.refl _ _).alloc (Nat.le_refl _) _⟩
theorem many101 (f : MFrame) (tb : Nat) (t : Int) (w : World) (hf : FOk f) (ht : 0 ≤ t ∧ t ≤ 100000000) (hb : tb < w.heap.size) (hc : w.cell? ⟨tb, 0, none⟩ = some (.int .i64 t)) :
    Calls Try.prog 101 #[frameV f, .pointer (some ⟨tb, 0, none⟩)] w fun e w' => e = .returned (.int .i64 (manyAt t f)) ∧ Below w.heap.size w w' := by
  unfold frameV manyAt
  obtain ⟨_, h2, _, h4, _⟩ := hf
  have hd : 0 ≤ (t + f.jitter) / f.every ∧ (t + f.jitter) / f.every ≤ t + f.jitter := ⟨Int.ediv_nonneg (by omega) (by omega), Int.ediv_le_self _ (by omega)⟩
  go_enter Try.func101, Try.ntmps101
  go_wp2
  go_ret
  exact ⟨rfl, (Below.refl _ _).alloc (Nat.le_refl _) _⟩
def loadTo (l : List MFrame) (ab : Nat → Bool) (F : MFrame → Int) : Nat → Int
  | 0 => 0
  | k + 1 => loadTo l ab F k + if ab k = true then F (l.getD k ⟨0, 0, 0, 0, 0⟩) * (l.getD k ⟨0, 0, 0, 0, 0⟩).size else 0
theorem loadTo_bd {l : List MFrame} {ab : Nat → Bool} {F : MFrame → Int} (hl : l.length ≤ 40) (hF : ∀ (k : Nat) (f : MFrame), l[k]? = some f → (0 ≤ F f ∧ F f ≤ 200000000) ∧ 1 ≤ f.size ∧ f.size ≤ 1000) : ∀ k, k ≤ l.length → 0 ≤ loadTo l ab F k ∧ loadTo l ab F k ≤ 200000000000 * k := by
  intro k
  induction k with
  | zero => intro _; simp [loadTo]
  | succ k ih =>
    intro hk
    have h1 := ih (by omega)
    have hf : l[k]? = some l[k] := List.getElem?_eq_getElem (by omega)
    have h2 := hF k _ hf
    have h3 : 0 ≤ F l[k] * l[k].size ∧ F l[k] * l[k].size ≤ 200000000000 := by
      constructor
      · exact Int.mul_nonneg h2.1.1 (by omega)
      · have := Int.mul_le_mul h2.1.2 h2.2.2 (by omega) (by omega)
        omega
    unfold loadTo
    rw [show l.getD k ⟨0, 0, 0, 0, 0⟩ = l[k] by rw [List.getD_eq_getElem?_getD, hf]; rfl]
    split <;> omega
theorem loadTo_succ {l : List MFrame} {ab : Nat → Bool} {F : MFrame → Int} {k : Nat} {f : MFrame} (hf : l[k]? = some f) : loadTo l ab F (k + 1) = loadTo l ab F k + if ab k = true then F f * f.size else 0 := by
  rw [loadTo, show l.getD k ⟨0, 0, 0, 0, 0⟩ = f by rw [List.getD_eq_getElem?_getD, hf]; rfl]
theorem manyUp_bd {t : Int} {f : MFrame} (hf : FOk f) (ht : 0 ≤ t ∧ t ≤ 100000000) : 0 ≤ manyUp t f ∧ manyUp t f ≤ 200000000 := by
  obtain ⟨_, h2, _, h4, _⟩ := hf
  unfold manyUp
  constructor
  · exact Int.ediv_nonneg (by omega) (by omega)
  · have := Int.ediv_le_self (a := t + f.jitter + f.every - 1) f.every (by omega)
    omega
theorem manyAt_bd {t : Int} {f : MFrame} (hf : FOk f) (ht : 0 ≤ t ∧ t ≤ 100000000) : 0 ≤ manyAt t f ∧ manyAt t f ≤ 200000000 := by
  obtain ⟨_, h2, _, h4, _⟩ := hf
  unfold manyAt
  have h5 : 0 ≤ (t + f.jitter) / f.every := Int.ediv_nonneg (by omega) (by omega)
  have := Int.ediv_le_self (a := t + f.jitter) f.every (by omega)
  omega
set_option maxRecDepth 100000 in
set_option maxHeartbeats 1000000 in
theorem load99 (A : Option Addr) (cap : Nat) (l : List MFrame) (ab : Nat → Bool) (tb lb bb gb : Nat) (t : Int) (w : World) (h : FramesA w w.heap.size A l) (hF : ∀ (k : Nat) (f : MFrame), l[k]? = some f → FOk f) (hl : l.length ≤ 40) (hT : 0 ≤ t ∧ t ≤ 100000000)
    (ht : w.cell? ⟨tb, 0, none⟩ = some (.int .i64 t)) (htb : tb < w.heap.size) (hlc : w.cell? ⟨lb, 0, none⟩ = some (.slice A l.length cap)) (hbb : bb < w.heap.size)
    (hbc : w.cell? ⟨bb, 0, none⟩ = some (.slice (some ⟨gb, 0, none⟩) l.length l.length)) (hgb : OwnF w gb 4 l.length (fun j => .bool (ab j))) :
    Calls Try.prog 96 #[.func (.func 99) #[] #[.pointer (some ⟨tb, 0, none⟩)], .pointer (some ⟨lb, 0, none⟩), .pointer (some ⟨bb, 0, none⟩)] w fun e w' => e = .returned (.int .i64 (loadTo l ab (manyUp t) l.length)) ∧ Below w.heap.size w w' := by
  have HFO := Lib.hid hF
  clear hF
  go_enter Try.func96, Try.ntmps96
  go_wp2
  go_loopw [4, 9] (fun s i wr => ∃ k : Nat, k ≤ l.length ∧ i = .int .i64 k ∧ s = .int .i64 (loadTo l ab (manyUp t) k) ∧ Below w.heap.size w wr) (fun _ i _ => l.length - (intOf i).toNat)
  case atStart => exact ⟨0, Nat.zero_le _, rfl, rfl, Below.refl _ _⟩
  case round =>
    obtain ⟨k, hk, rfl, rfl, hbw⟩ := hrel
    have hbd := loadTo_bd (ab := ab) (F := manyUp t) hl (fun k f hf => ⟨manyUp_bd (HFO.out k f hf) hT, (HFO.out k f hf).1⟩) k hk
    have hsz := hbw.size
    by_cases hlt : k < l.length
    · obtain ⟨f, b, off, hf, rfl, hbb', c0, c1, c2, c3, c4⟩ := (h.keep hbw).at_ hlt
      have HSU := Lib.hid (loadTo_succ (ab := ab) (F := manyUp t) hf)
      have hfo := HFO.out k f hf
      have HFK := Lib.hid hfo
      have hfm := manyUp_bd hfo hT
      have hsize := hfo.1
      clear hf hfo
      have hb1 : Below w.heap.size wr (wr.alloc (.cells #[.int .i64 f.size, .int .i64 f.every, .int .i64 f.jitter, .int .i64 f.due, .int .i64 f.rank] 41)) := (Below.refl _ _).alloc hsz _
      have q1 := (bcell (hbw.trans hb1) bb 0 hbb).trans hbc
      have hgl := hgb.lt
      have q2 := (hgb.below (hbw.trans hb1) hgl).cell hlt
      have q3 := (bcell (hbw.trans hb1) tb 0 htb).trans ht
      generalize loadTo l ab (manyUp t) k = S at *
      rcases hab : ab k
      · rw [hab] at q2
        have HAB := Lib.hid hab
        clear hab
        go_wp2_with fail
        go_roundw
        case rel => exact ⟨k + 1, by omega, by go_num, int_c (by rw [HSU.out, HAB.out]; simp), hbw.trans hb1⟩
        case measure => simp [intOf]; omega
      · rw [hab] at q2
        have HAB := Lib.hid hab
        clear hab
        go_wp2_with fail
        have n0 := newcell wr #[.int .i64 f.size, .int .i64 f.every, .int .i64 f.jitter, .int .i64 f.due, .int .i64 f.rank] 41 0
        have n1 := newcell wr #[.int .i64 f.size, .int .i64 f.every, .int .i64 f.jitter, .int .i64 f.due, .int .i64 f.rank] 41 1
        have n2 := newcell wr #[.int .i64 f.size, .int .i64 f.every, .int .i64 f.jitter, .int .i64 f.due, .int .i64 f.rank] 41 2
        have n3 := newcell wr #[.int .i64 f.size, .int .i64 f.every, .int .i64 f.jitter, .int .i64 f.due, .int .i64 f.rank] 41 3
        have n4 := newcell wr #[.int .i64 f.size, .int .i64 f.every, .int .i64 f.jitter, .int .i64 f.due, .int .i64 f.rank] 41 4
        simp only [List.getElem?_toArray, List.getElem?_cons_succ, List.getElem?_cons_zero] at n0 n1 n2 n3 n4
        have hs5 : (wr.alloc (.cells #[.int .i64 f.size, .int .i64 f.every, .int .i64 f.jitter, .int .i64 f.due, .int .i64 f.rank] 41)).heap.size = wr.heap.size + 1 := by simp
        generalize hW : wr.alloc (.cells #[.int .i64 f.size, .int .i64 f.every, .int .i64 f.jitter, .int .i64 f.due, .int .i64 f.rank] 41) = w5 at *
        have hs5' : wr.heap.size < w5.heap.size := by omega
        have HS5 := Lib.hid hs5
        clear hW hs5
        have m0 := BW.cell hs5' n0
        have m1 := BW.cell hs5' n1
        have m2 := BW.cell hs5' n2
        have m3 := BW.cell hs5' n3
        have m4 := BW.cell hs5' n4
        have m5 := BW.cell (B := w5.heap.size) (show tb < w5.heap.size by omega) q3
        have hmul : 0 ≤ manyUp t f * f.size ∧ manyUp t f * f.size ≤ 200000000000 := by
          constructor
          · exact Int.mul_nonneg hfm.1 (by omega)
          · have := Int.mul_le_mul hfm.2 hsize.2 (by omega) (by omega)
            omega
        have HCL : Hid (∀ s : BW w5.heap.size w5, Calls Try.prog 99 #[frameV f, .pointer (some ⟨tb, 0, none⟩)] s.1 fun e w' => e = .returned (.int .i64 (manyUp t f)) ∧ Below s.1.heap.size s.1 w') := fun s => many99 f tb t s.1 HFK.out hT (by have := s.2.size; omega) (m5 s)
        generalize manyUp t f = M at *
        have e1 : IntKind.i64.wrap (M * f.size) = M * f.size := IntWalk.i64_in _ (by omega)
        have e2 : IntKind.i64.wrap (S + M * f.size) = S + M * f.size := IntWalk.i64_in _ (by omega)
        clear n0 n1 n2 n3 n4 c0 c1 c2 c3 c4 q1 q2 q3 m5
        refine wp_region_below w5.heap.size w5 (Below.refl _ _) (by kernel_rfl) (by kernel_rfl) ?_
        repeat (go_big_quiet_step ((go_at_call 99; exact quiet_below (Nat.le_refl _) (HCL.out _))))
        refine wpQuiet_nil ?_
        clear e1 e2 m0 m1 m2 m3 m4
        intro s
        go_wp2_with fail
        go_roundw
        case rel => exact ⟨k + 1, by omega, by go_num, int_c (by rw [HSU.out, HAB.out]; simp), (hbw.trans hb1).trans (s.2.mono (by have := HS5.out; omega))⟩
        case measure => simp [intOf]; omega
    · obtain rfl : k = l.length := by omega
      go_wp2_with fail
      go_ret
      exact ⟨rfl, hbw⟩
set_option maxRecDepth 100000 in
set_option maxHeartbeats 1000000 in
theorem load101 (A : Option Addr) (cap : Nat) (l : List MFrame) (ab : Nat → Bool) (tb lb bb gb : Nat) (t : Int) (w : World) (h : FramesA w w.heap.size A l) (hF : ∀ (k : Nat) (f : MFrame), l[k]? = some f → FOk f) (hl : l.length ≤ 40) (hT : 0 ≤ t ∧ t ≤ 100000000)
    (ht : w.cell? ⟨tb, 0, none⟩ = some (.int .i64 t)) (htb : tb < w.heap.size) (hlc : w.cell? ⟨lb, 0, none⟩ = some (.slice A l.length cap)) (hbb : bb < w.heap.size)
    (hbc : w.cell? ⟨bb, 0, none⟩ = some (.slice (some ⟨gb, 0, none⟩) l.length l.length)) (hgb : OwnF w gb 4 l.length (fun j => .bool (ab j))) :
    Calls Try.prog 96 #[.func (.func 101) #[] #[.pointer (some ⟨tb, 0, none⟩)], .pointer (some ⟨lb, 0, none⟩), .pointer (some ⟨bb, 0, none⟩)] w fun e w' => e = .returned (.int .i64 (loadTo l ab (manyAt t) l.length)) ∧ Below w.heap.size w w' := by
  have HFO := Lib.hid hF
  clear hF
  go_enter Try.func96, Try.ntmps96
  go_wp2
  go_loopw [4, 9] (fun s i wr => ∃ k : Nat, k ≤ l.length ∧ i = .int .i64 k ∧ s = .int .i64 (loadTo l ab (manyAt t) k) ∧ Below w.heap.size w wr) (fun _ i _ => l.length - (intOf i).toNat)
  case atStart => exact ⟨0, Nat.zero_le _, rfl, rfl, Below.refl _ _⟩
  case round =>
    obtain ⟨k, hk, rfl, rfl, hbw⟩ := hrel
    have hbd := loadTo_bd (ab := ab) (F := manyAt t) hl (fun k f hf => ⟨manyAt_bd (HFO.out k f hf) hT, (HFO.out k f hf).1⟩) k hk
    have hsz := hbw.size
    by_cases hlt : k < l.length
    · obtain ⟨f, b, off, hf, rfl, hbb', c0, c1, c2, c3, c4⟩ := (h.keep hbw).at_ hlt
      have HSU := Lib.hid (loadTo_succ (ab := ab) (F := manyAt t) hf)
      have hfo := HFO.out k f hf
      have HFK := Lib.hid hfo
      have hfm := manyAt_bd hfo hT
      have hsize := hfo.1
      clear hf hfo
      have hb1 : Below w.heap.size wr (wr.alloc (.cells #[.int .i64 f.size, .int .i64 f.every, .int .i64 f.jitter, .int .i64 f.due, .int .i64 f.rank] 41)) := (Below.refl _ _).alloc hsz _
      have q1 := (bcell (hbw.trans hb1) bb 0 hbb).trans hbc
      have hgl := hgb.lt
      have q2 := (hgb.below (hbw.trans hb1) hgl).cell hlt
      have q3 := (bcell (hbw.trans hb1) tb 0 htb).trans ht
      generalize loadTo l ab (manyAt t) k = S at *
      rcases hab : ab k
      · rw [hab] at q2
        have HAB := Lib.hid hab
        clear hab
        go_wp2_with fail
        go_roundw
        case rel => exact ⟨k + 1, by omega, by go_num, int_c (by rw [HSU.out, HAB.out]; simp), hbw.trans hb1⟩
        case measure => simp [intOf]; omega
      · rw [hab] at q2
        have HAB := Lib.hid hab
        clear hab
        go_wp2_with fail
        have n0 := newcell wr #[.int .i64 f.size, .int .i64 f.every, .int .i64 f.jitter, .int .i64 f.due, .int .i64 f.rank] 41 0
        have n1 := newcell wr #[.int .i64 f.size, .int .i64 f.every, .int .i64 f.jitter, .int .i64 f.due, .int .i64 f.rank] 41 1
        have n2 := newcell wr #[.int .i64 f.size, .int .i64 f.every, .int .i64 f.jitter, .int .i64 f.due, .int .i64 f.rank] 41 2
        have n3 := newcell wr #[.int .i64 f.size, .int .i64 f.every, .int .i64 f.jitter, .int .i64 f.due, .int .i64 f.rank] 41 3
        have n4 := newcell wr #[.int .i64 f.size, .int .i64 f.every, .int .i64 f.jitter, .int .i64 f.due, .int .i64 f.rank] 41 4
        simp only [List.getElem?_toArray, List.getElem?_cons_succ, List.getElem?_cons_zero] at n0 n1 n2 n3 n4
        have hs5 : (wr.alloc (.cells #[.int .i64 f.size, .int .i64 f.every, .int .i64 f.jitter, .int .i64 f.due, .int .i64 f.rank] 41)).heap.size = wr.heap.size + 1 := by simp
        generalize hW : wr.alloc (.cells #[.int .i64 f.size, .int .i64 f.every, .int .i64 f.jitter, .int .i64 f.due, .int .i64 f.rank] 41) = w5 at *
        have hs5' : wr.heap.size < w5.heap.size := by omega
        have HS5 := Lib.hid hs5
        clear hW hs5
        have m0 := BW.cell hs5' n0
        have m1 := BW.cell hs5' n1
        have m2 := BW.cell hs5' n2
        have m3 := BW.cell hs5' n3
        have m4 := BW.cell hs5' n4
        have m5 := BW.cell (B := w5.heap.size) (show tb < w5.heap.size by omega) q3
        have hmul : 0 ≤ manyAt t f * f.size ∧ manyAt t f * f.size ≤ 200000000000 := by
          constructor
          · exact Int.mul_nonneg hfm.1 (by omega)
          · have := Int.mul_le_mul hfm.2 hsize.2 (by omega) (by omega)
            omega
        have HCL : Hid (∀ s : BW w5.heap.size w5, Calls Try.prog 101 #[frameV f, .pointer (some ⟨tb, 0, none⟩)] s.1 fun e w' => e = .returned (.int .i64 (manyAt t f)) ∧ Below s.1.heap.size s.1 w') := fun s => many101 f tb t s.1 HFK.out hT (by have := s.2.size; omega) (m5 s)
        generalize manyAt t f = M at *
        have e1 : IntKind.i64.wrap (M * f.size) = M * f.size := IntWalk.i64_in _ (by omega)
        have e2 : IntKind.i64.wrap (S + M * f.size) = S + M * f.size := IntWalk.i64_in _ (by omega)
        clear n0 n1 n2 n3 n4 c0 c1 c2 c3 c4 q1 q2 q3 m5
        refine wp_region_below w5.heap.size w5 (Below.refl _ _) (by kernel_rfl) (by kernel_rfl) ?_
        repeat (go_big_quiet_step ((go_at_call 101; exact quiet_below (Nat.le_refl _) (HCL.out _))))
        refine wpQuiet_nil ?_
        clear e1 e2 m0 m1 m2 m3 m4
        intro s
        go_wp2_with fail
        go_roundw
        case rel => exact ⟨k + 1, by omega, by go_num, int_c (by rw [HSU.out, HAB.out]; simp), (hbw.trans hb1).trans (s.2.mono (by have := HS5.out; omega))⟩
        case measure => simp [intOf]; omega
    · obtain rfl : k = l.length := by omega
      go_wp2_with fail
      go_ret
      exact ⟨rfl, hbw⟩
end Go.Proofs.Ytlbbhlkbhegegaa
