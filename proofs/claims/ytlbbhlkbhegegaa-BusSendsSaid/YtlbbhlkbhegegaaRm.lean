/- Walks: responses of frames. -/
import Derived.Test.YtlbbhlkbhegegaaF1
import Derived.Test.YtlbbhlkbhegegaaOwn
import Derived.Test.YtlbbhlkbhegegaaQb
import Derived.Laws.EntriesVeiled
import Derived.Test.YtlbbhlkbhegegaaLaws
import Derived.Test.YtlbbhlkbhegegaaTail
/- Walks: the closures of bus.response. -/
namespace Go.Proofs.Ytlbbhlkbhegegaa
open Go.RowKit

def manyUp (t : Int) (f : MFrame) : Int := (t + f.jitter + f.every - 1) / f.every
def manyAt (t : Int) (f : MFrame) : Int := (t + f.jitter) / f.every + 1
def FOk (f : MFrame) : Prop := (1 ≤ f.size ∧ f.size ≤ 1000) ∧ (1 ≤ f.every ∧ f.every ≤ 100000) ∧ (1 ≤ f.due ∧ f.due ≤ 100000) ∧ (0 ≤ f.jitter ∧ f.jitter ≤ 100000) ∧ (-1 ≤ f.rank ∧ f.rank ≤ 1000)
theorem many99 (f : MFrame) (tb : Nat) (t : Int) (w : World) (hf : FOk f) (ht : 0 ≤ t ∧ t ≤ 100000000) (hb : tb < w.heap.size) (hc : w.cell? ⟨tb, 0, none⟩ = some (.int .i64 t)) :
    Calls Try.prog 99 #[frameV f, .pointer (some ⟨tb, 0, none⟩)] w fun e w' => e = .returned (.int .i64 (manyUp t f)) ∧ Below w.heap.size w w' := by
  unfold frameV manyUp
  obtain ⟨_, h2, _, h4, _⟩ := hf
  go_enter Try.func99, Try.ntmps99
  go_wp2_with (go_at_call 60; refine (up_any _ _ _ (by omega) (by omega) (by omega) (by omega)).mono ?_; rintro e w' ⟨rfl, rfl⟩)
  go_ret
  exact ⟨rfl, (Below.refl _ _).alloc (Nat.le_refl _) _⟩
theorem many101 (f : MFrame) (tb : Nat) (t : Int) (w : World) (hf : FOk f) (ht : 0 ≤ t ∧ t ≤ 100000000) (hb : tb < w.heap.size) (hc : w.cell? ⟨tb, 0, none⟩ = some (.int .i64 t)) :
    Calls Try.prog 101 #[frameV f, .pointer (some ⟨tb, 0, none⟩)] w fun e w' => e = .returned (.int .i64 (manyAt t f)) ∧ Below w.heap.size w w' := by
  unfold frameV manyAt
  obtain ⟨_, h2, _, h4, _⟩ := hf
  have hd : 0 ≤ (t + f.jitter) / f.every ∧ (t + f.jitter) / f.every ≤ t + f.jitter := ⟨Int.ediv_nonneg (by omega) (by omega), Int.ediv_le_self _ (by omega)⟩
  go_enter Try.func101, Try.ntmps101
  go_wp2
  go_ret
  exact ⟨rfl, (Below.refl _ _).alloc (Nat.le_refl _) _⟩
def loadTo (l : List MFrame) (ab : Nat → Bool) (F : MFrame → Int) : Nat → Int
  | 0 => 0
  | k + 1 => loadTo l ab F k + if ab k = true then F (l.getD k ⟨0, 0, 0, 0, 0⟩) * (l.getD k ⟨0, 0, 0, 0, 0⟩).size else 0
theorem loadTo_bd {l : List MFrame} {ab : Nat → Bool} {F : MFrame → Int} (hl : l.length ≤ 40) (hF : ∀ (k : Nat) (f : MFrame), l[k]? = some f → (0 ≤ F f ∧ F f ≤ 200000000) ∧ 1 ≤ f.size ∧ f.size ≤ 1000) : ∀ k, k ≤ l.length → 0 ≤ loadTo l ab F k ∧ loadTo l ab F k ≤ 200000000000 * k := by
  intro k
  induction k with
  | zero => intro _; simp [loadTo]
  | succ k ih =>
    intro hk
    have h1 := ih (by omega)
    have hf : l[k]? = some l[k] := List.getElem?_eq_getElem (by omega)
    have h2 := hF k _ hf
    have h3 : 0 ≤ F l[k] * l[k].size ∧ F l[k] * l[k].size ≤ 200000000000 := by
      constructor
      · exact Int.mul_nonneg h2.1.1 (by omega)
      · have := Int.mul_le_mul h2.1.2 h2.2.2 (by omega) (by omega)
        omega
    unfold loadTo
    rw [show l.getD k ⟨0, 0, 0, 0, 0⟩ = l[k] by rw [List.getD_eq_getElem?_getD, hf]; rfl]
    split <;> omega
theorem loadTo_succ {l : List MFrame} {ab : Nat → Bool} {F : MFrame → Int} {k : Nat} {f : MFrame} (hf : l[k]? = some f) : loadTo l ab F (k + 1) = loadTo l ab F k + if ab k = true then F f * f.size else 0 := by
  rw [loadTo, show l.getD k ⟨0, 0, 0, 0, 0⟩ = f by rw [List.getD_eq_getElem?_getD, hf]; rfl]
theorem manyUp_bd {t : Int} {f : MFrame} (hf : FOk f) (ht : 0 ≤ t ∧ t ≤ 100000000) : 0 ≤ manyUp t f ∧ manyUp t f ≤ 200000000 := by
  obtain ⟨_, h2, _, h4, _⟩ := hf
  unfold manyUp
  constructor
  · exact Int.ediv_nonneg (by omega) (by omega)
  · have := Int.ediv_le_self (a := t + f.jitter + f.every - 1) f.every (by omega)
    omega
theorem manyAt_bd {t : Int} {f : MFrame} (hf : FOk f) (ht : 0 ≤ t ∧ t ≤ 100000000) : 0 ≤ manyAt t f ∧ manyAt t f ≤ 200000000 := by
  obtain ⟨_, h2, _, h4, _⟩ := hf
  unfold manyAt
  have h5 : 0 ≤ (t + f.jitter) / f.every := Int.ediv_nonneg (by omega) (by omega)
  have := Int.ediv_le_self (a := t + f.jitter) f.every (by omega)
  omega
set_option maxRecDepth 100000 in
set_option maxHeartbeats 1000000 in
theorem load99 (A : Option Addr) (cap : Nat) (l : List MFrame) (ab : Nat → Bool) (tb lb bb gb : Nat) (t : Int) (w : World) (h : FramesA w w.heap.size A l) (hF : ∀ (k : Nat) (f : MFrame), l[k]? = some f → FOk f) (hl : l.length ≤ 40) (hT : 0 ≤ t ∧ t ≤ 100000000)
    (ht : w.cell? ⟨tb, 0, none⟩ = some (.int .i64 t)) (htb : tb < w.heap.size) (hlc : w.cell? ⟨lb, 0, none⟩ = some (.slice A l.length cap)) (hbb : bb < w.heap.size)
    (hbc : w.cell? ⟨bb, 0, none⟩ = some (.slice (some ⟨gb, 0, none⟩) l.length l.length)) (hgb : OwnF w gb 4 l.length (fun j => .bool (ab j))) :
    Calls Try.prog 96 #[.func (.func 99) #[] #[.pointer (some ⟨tb, 0, none⟩)], .pointer (some ⟨lb, 0, none⟩), .pointer (some ⟨bb, 0, none⟩)] w fun e w' => e = .returned (.int .i64 (loadTo l ab (manyUp t) l.length)) ∧ Below w.heap.size w w' := by
  have HFO := Lib.hid hF
  clear hF
  go_enter Try.func96, Try.ntmps96
  go_wp2
  go_loopw [4, 9] (fun s i wr => ∃ k : Nat, k ≤ l.length ∧ i = .int .i64 k ∧ s = .int .i64 (loadTo l ab (manyUp t) k) ∧ Below w.heap.size w wr) (fun _ i _ => l.length - (intOf i).toNat)
  case atStart => exact ⟨0, Nat.zero_le _, rfl, rfl, Below.refl _ _⟩
  case round =>
    obtain ⟨k, hk, rfl, rfl, hbw⟩ := hrel
    have hbd := loadTo_bd (ab := ab) (F := manyUp t) hl (fun k f hf => ⟨manyUp_bd (HFO.out k f hf) hT, (HFO.out k f hf).1⟩) k hk
    have hsz := hbw.size
    by_cases hlt : k < l.length
    · obtain ⟨f, b, off, hf, rfl, hbb', c0, c1, c2, c3, c4⟩ := (h.keep hbw).at_ hlt
      have HSU := Lib.hid (loadTo_succ (ab := ab) (F := manyUp t) hf)
      have hfo := HFO.out k f hf
      have HFK := Lib.hid hfo
      have hfm := manyUp_bd hfo hT
      have hsize := hfo.1
      clear hf hfo
      have hb1 : Below w.heap.size wr (wr.alloc (.cells #[.int .i64 f.size, .int .i64 f.every, .int .i64 f.jitter, .int .i64 f.due, .int .i64 f.rank] 41)) := (Below.refl _ _).alloc hsz _
      have q1 := (bcell (hbw.trans hb1) bb 0 hbb).trans hbc
      have hgl := hgb.lt
      have q2 := (hgb.below (hbw.trans hb1) hgl).cell hlt
      have q3 := (bcell (hbw.trans hb1) tb 0 htb).trans ht
      generalize loadTo l ab (manyUp t) k = S at *
      rcases hab : ab k
      · rw [hab] at q2
        have HAB := Lib.hid hab
        clear hab
        go_wp2_with fail
        go_roundw
        case rel => exact ⟨k + 1, by omega, by go_num, int_c (by rw [HSU.out, HAB.out]; simp), hbw.trans hb1⟩
        case measure => simp [intOf]; omega
      · rw [hab] at q2
        have HAB := Lib.hid hab
        clear hab
        go_wp2_with fail
        have n0 := newcell wr #[.int .i64 f.size, .int .i64 f.every, .int .i64 f.jitter, .int .i64 f.due, .int .i64 f.rank] 41 0
        have n1 := newcell wr #[.int .i64 f.size, .int .i64 f.every, .int .i64 f.jitter, .int .i64 f.due, .int .i64 f.rank] 41 1
        have n2 := newcell wr #[.int .i64 f.size, .int .i64 f.every, .int .i64 f.jitter, .int .i64 f.due, .int .i64 f.rank] 41 2
        have n3 := newcell wr #[.int .i64 f.size, .int .i64 f.every, .int .i64 f.jitter, .int .i64 f.due, .int .i64 f.rank] 41 3
        have n4 := newcell wr #[.int .i64 f.size, .int .i64 f.every, .int .i64 f.jitter, .int .i64 f.due, .int .i64 f.rank] 41 4
        simp only [List.getElem?_toArray, List.getElem?_cons_succ, List.getElem?_cons_zero] at n0 n1 n2 n3 n4
        have hs5 : (wr.alloc (.cells #[.int .i64 f.size, .int .i64 f.every, .int .i64 f.jitter, .int .i64 f.due, .int .i64 f.rank] 41)).heap.size = wr.heap.size + 1 := by simp
        generalize hW : wr.alloc (.cells #[.int .i64 f.size, .int .i64 f.every, .int .i64 f.jitter, .int .i64 f.due, .int .i64 f.rank] 41) = w5 at *
        have hs5' : wr.heap.size < w5.heap.size := by omega
        have HS5 := Lib.hid hs5
        clear hW hs5
        have m0 := BW.cell hs5' n0
        have m1 := BW.cell hs5' n1
        have m2 := BW.cell hs5' n2
        have m3 := BW.cell hs5' n3
        have m4 := BW.cell hs5' n4
        have m5 := BW.cell (B := w5.heap.size) (show tb < w5.heap.size by omega) q3
        have hmul : 0 ≤ manyUp t f * f.size ∧ manyUp t f * f.size ≤ 200000000000 := by
          constructor
          · exact Int.mul_nonneg hfm.1 (by omega)
          · have := Int.mul_le_mul hfm.2 hsize.2 (by omega) (by omega)
            omega
        have HCL : Hid (∀ s : BW w5.heap.size w5, Calls Try.prog 99 #[frameV f, .pointer (some ⟨tb, 0, none⟩)] s.1 fun e w' => e = .returned (.int .i64 (manyUp t f)) ∧ Below s.1.heap.size s.1 w') := fun s => many99 f tb t s.1 HFK.out hT (by have := s.2.size; omega) (m5 s)
        generalize manyUp t f = M at *
        have e1 : IntKind.i64.wrap (M * f.size) = M * f.size := IntWalk.i64_in _ (by omega)
        have e2 : IntKind.i64.wrap (S + M * f.size) = S + M * f.size := IntWalk.i64_in _ (by omega)
        clear n0 n1 n2 n3 n4 c0 c1 c2 c3 c4 q1 q2 q3 m5
        refine wp_region_below w5.heap.size w5 (Below.refl _ _) (by kernel_rfl) (by kernel_rfl) ?_
        repeat (go_big_quiet_step ((go_at_call 99; exact quiet_below (Nat.le_refl _) (HCL.out _))))
        refine wpQuiet_nil ?_
        clear e1 e2 m0 m1 m2 m3 m4
        intro s
        go_wp2_with fail
        go_roundw
        case rel => exact ⟨k + 1, by omega, by go_num, int_c (by rw [HSU.out, HAB.out]; simp), (hbw.trans hb1).trans (s.2.mono (by have := HS5.out; omega))⟩
        case measure => simp [intOf]; omega
    · obtain rfl : k = l.length := by omega
      go_wp2_with fail
      go_ret
      exact ⟨rfl, hbw⟩
set_option maxRecDepth 100000 in
set_option maxHeartbeats 1000000 in
theorem load101 (A : Option Addr) (cap : Nat) (l : List MFrame) (ab : Nat → Bool) (tb lb bb gb : Nat) (t : Int) (w : World) (h : FramesA w w.heap.size A l) (hF : ∀ (k : Nat) (f : MFrame), l[k]? = some f → FOk f) (hl : l.length ≤ 40) (hT : 0 ≤ t ∧ t ≤ 100000000)
    (ht : w.cell? ⟨tb, 0, none⟩ = some (.int .i64 t)) (htb : tb < w.heap.size) (hlc : w.cell? ⟨lb, 0, none⟩ = some (.slice A l.length cap)) (hbb : bb < w.heap.size)
    (hbc : w.cell? ⟨bb, 0, none⟩ = some (.slice (some ⟨gb, 0, none⟩) l.length l.length)) (hgb : OwnF w gb 4 l.length (fun j => .bool (ab j))) :
    Calls Try.prog 96 #[.func (.func 101) #[] #[.pointer (some ⟨tb, 0, none⟩)], .pointer (some ⟨lb, 0, none⟩), .pointer (some ⟨bb, 0, none⟩)] w fun e w' => e = .returned (.int .i64 (loadTo l ab (manyAt t) l.length)) ∧ Below w.heap.size w w' := by
  have HFO := Lib.hid hF
  clear hF
  go_enter Try.func96, Try.ntmps96
  go_wp2
  go_loopw [4, 9] (fun s i wr => ∃ k : Nat, k ≤ l.length ∧ i = .int .i64 k ∧ s = .int .i64 (loadTo l ab (manyAt t) k) ∧ Below w.heap.size w wr) (fun _ i _ => l.length - (intOf i).toNat)
  case atStart => exact ⟨0, Nat.zero_le _, rfl, rfl, Below.refl _ _⟩
  case round =>
    obtain ⟨k, hk, rfl, rfl, hbw⟩ := hrel
    have hbd := loadTo_bd (ab := ab) (F := manyAt t) hl (fun k f hf => ⟨manyAt_bd (HFO.out k f hf) hT, (HFO.out k f hf).1⟩) k hk
    have hsz := hbw.size
    by_cases hlt : k < l.length
    · obtain ⟨f, b, off, hf, rfl, hbb', c0, c1, c2, c3, c4⟩ := (h.keep hbw).at_ hlt
      have HSU := Lib.hid (loadTo_succ (ab := ab) (F := manyAt t) hf)
      have hfo := HFO.out k f hf
      have HFK := Lib.hid hfo
      have hfm := manyAt_bd hfo hT
      have hsize := hfo.1
      clear hf hfo
      have hb1 : Below w.heap.size wr (wr.alloc (.cells #[.int .i64 f.size, .int .i64 f.every, .int .i64 f.jitter, .int .i64 f.due, .int .i64 f.rank] 41)) := (Below.refl _ _).alloc hsz _
      have q1 := (bcell (hbw.trans hb1) bb 0 hbb).trans hbc
      have hgl := hgb.lt
      have q2 := (hgb.below (hbw.trans hb1) hgl).cell hlt
      have q3 := (bcell (hbw.trans hb1) tb 0 htb).trans ht
      generalize loadTo l ab (manyAt t) k = S at *
      rcases hab : ab k
      · rw [hab] at q2
        have HAB := Lib.hid hab
        clear hab
        go_wp2_with fail
        go_roundw
        case rel => exact ⟨k + 1, by omega, by go_num, int_c (by rw [HSU.out, HAB.out]; simp), hbw.trans hb1⟩
        case measure => simp [intOf]; omega
      · rw [hab] at q2
        have HAB := Lib.hid hab
        clear hab
        go_wp2_with fail
        have n0 := newcell wr #[.int .i64 f.size, .int .i64 f.every, .int .i64 f.jitter, .int .i64 f.due, .int .i64 f.rank] 41 0
        have n1 := newcell wr #[.int .i64 f.size, .int .i64 f.every, .int .i64 f.jitter, .int .i64 f.due, .int .i64 f.rank] 41 1
        have n2 := newcell wr #[.int .i64 f.size, .int .i64 f.every, .int .i64 f.jitter, .int .i64 f.due, .int .i64 f.rank] 41 2
        have n3 := newcell wr #[.int .i64 f.size, .int .i64 f.every, .int .i64 f.jitter, .int .i64 f.due, .int .i64 f.rank] 41 3
        have n4 := newcell wr #[.int .i64 f.size, .int .i64 f.every, .int .i64 f.jitter, .int .i64 f.due, .int .i64 f.rank] 41 4
        simp only [List.getElem?_toArray, List.getElem?_cons_succ, List.getElem?_cons_zero] at n0 n1 n2 n3 n4
        have hs5 : (wr.alloc (.cells #[.int .i64 f.size, .int .i64 f.every, .int .i64 f.jitter, .int .i64 f.due, .int .i64 f.rank] 41)).heap.size = wr.heap.size + 1 := by simp
        generalize hW : wr.alloc (.cells #[.int .i64 f.size, .int .i64 f.every, .int .i64 f.jitter, .int .i64 f.due, .int .i64 f.rank] 41) = w5 at *
        have hs5' : wr.heap.size < w5.heap.size := by omega
        have HS5 := Lib.hid hs5
        clear hW hs5
        have m0 := BW.cell hs5' n0
        have m1 := BW.cell hs5' n1
        have m2 := BW.cell hs5' n2
        have m3 := BW.cell hs5' n3
        have m4 := BW.cell hs5' n4
        have m5 := BW.cell (B := w5.heap.size) (show tb < w5.heap.size by omega) q3
        have hmul : 0 ≤ manyAt t f * f.size ∧ manyAt t f * f.size ≤ 200000000000 := by
          constructor
          · exact Int.mul_nonneg hfm.1 (by omega)
          · have := Int.mul_le_mul hfm.2 hsize.2 (by omega) (by omega)
            omega
        have HCL : Hid (∀ s : BW w5.heap.size w5, Calls Try.prog 101 #[frameV f, .pointer (some ⟨tb, 0, none⟩)] s.1 fun e w' => e = .returned (.int .i64 (manyAt t f)) ∧ Below s.1.heap.size s.1 w') := fun s => many101 f tb t s.1 HFK.out hT (by have := s.2.size; omega) (m5 s)
        generalize manyAt t f = M at *
        have e1 : IntKind.i64.wrap (M * f.size) = M * f.size := IntWalk.i64_in _ (by omega)
        have e2 : IntKind.i64.wrap (S + M * f.size) = S + M * f.size := IntWalk.i64_in _ (by omega)
        clear n0 n1 n2 n3 n4 c0 c1 c2 c3 c4 q1 q2 q3 m5
        refine wp_region_below w5.heap.size w5 (Below.refl _ _) (by kernel_rfl) (by kernel_rfl) ?_
        repeat (go_big_quiet_step ((go_at_call 101; exact quiet_below (Nat.le_refl _) (HCL.out _))))
        refine wpQuiet_nil ?_
        clear e1 e2 m0 m1 m2 m3 m4
        intro s
        go_wp2_with fail
        go_roundw
        case rel => exact ⟨k + 1, by omega, by go_num, int_c (by rw [HSU.out, HAB.out]; simp), (hbw.trans hb1).trans (s.2.mono (by have := HS5.out; omega))⟩
        case measure => simp [intOf]; omega
    · obtain rfl : k = l.length := by omega
      go_wp2_with fail
      go_ret
      exact ⟨rfl, hbw⟩
end Go.Proofs.Ytlbbhlkbhegegaa

/- Walks: the closures that response settles. -/
namespace Go.Proofs.Ytlbbhlkbhegegaa
open Go.RowKit

/-- what the closures of response find in memory -/
structure REnv (A : Option Addr) (cap : Nat) (l : List MFrame) (ab : Nat → Bool) (lb bb gb kb ob pb : Nat) (block : Int) (own : MFrame) (w : World) : Prop where
  frames : FramesA w w.heap.size A l
  hl : lb < w.heap.size
  lc : w.cell? ⟨lb, 0, none⟩ = some (.slice A l.length cap)
  hb : bb < w.heap.size
  bc : w.cell? ⟨bb, 0, none⟩ = some (.slice (some ⟨gb, 0, none⟩) l.length l.length)
  og : OwnF w gb 4 l.length (fun j => .bool (ab j))
  hk : kb < w.heap.size
  kc : w.cell? ⟨kb, 0, none⟩ = some (.int .i64 block)
  ho : ob < w.heap.size
  o0 : w.cell? ⟨ob, 0, none⟩ = some (.int .i64 own.size)
  o1 : w.cell? ⟨ob, 1, none⟩ = some (.int .i64 own.every)
  o2 : w.cell? ⟨ob, 2, none⟩ = some (.int .i64 own.jitter)
  o3 : w.cell? ⟨ob, 3, none⟩ = some (.int .i64 own.due)
  o4 : w.cell? ⟨ob, 4, none⟩ = some (.int .i64 own.rank)
  hp : pb < w.heap.size
  pc : w.cell? ⟨pb, 0, none⟩ = some (.func (.func 96) #[] #[.pointer (some ⟨lb, 0, none⟩), .pointer (some ⟨bb, 0, none⟩)])
theorem REnv.below {A : Option Addr} {cap : Nat} {l : List MFrame} {ab : Nat → Bool} {lb bb gb kb ob pb : Nat} {block : Int} {own : MFrame} {w w' : World} (h : REnv A cap l ab lb bb gb kb ob pb block own w) (hb : Below w.heap.size w w') : REnv A cap l ab lb bb gb kb ob pb block own w' :=
  have hs := hb.size
  ⟨(h.frames.keep hb).more hs, Nat.lt_of_lt_of_le h.hl hs, (bcell hb _ _ h.hl).trans h.lc, Nat.lt_of_lt_of_le h.hb hs, (bcell hb _ _ h.hb).trans h.bc, h.og.below hb h.og.lt, Nat.lt_of_lt_of_le h.hk hs, (bcell hb _ _ h.hk).trans h.kc,
    Nat.lt_of_lt_of_le h.ho hs, (bcell hb _ _ h.ho).trans h.o0, (bcell hb _ _ h.ho).trans h.o1, (bcell hb _ _ h.ho).trans h.o2, (bcell hb _ _ h.ho).trans h.o3, (bcell hb _ _ h.ho).trans h.o4, Nat.lt_of_lt_of_le h.hp hs, (bcell hb _ _ h.hp).trans h.pc⟩
def busyS (l : List MFrame) (ab : Nat → Bool) (block : Int) (own : MFrame) (t : Int) : Int := block + manyUp t own * own.size + loadTo l ab (manyUp t) l.length

set_option maxRecDepth 100000 in
set_option maxHeartbeats 1000000 in
theorem busy98 {A : Option Addr} {cap : Nat} {l : List MFrame} {ab : Nat → Bool} {lb bb gb kb ob pb : Nat} {block : Int} {own : MFrame} (t : Int) (w : World) (h : REnv A cap l ab lb bb gb kb ob pb block own w)
    (hF : ∀ (k : Nat) (f : MFrame), l[k]? = some f → FOk f) (hO : FOk own) (hl : l.length ≤ 40) (hT : 0 ≤ t ∧ t ≤ 100000000) (hB : 0 ≤ block ∧ block ≤ 1000) :
    Calls Try.prog 98 #[.int .i64 t, .pointer (some ⟨kb, 0, none⟩), .pointer (some ⟨ob, 0, none⟩), .pointer (some ⟨pb, 0, none⟩)] w fun e w' => e = .returned (.int .i64 (busyS l ab block own t)) ∧ Below w.heap.size w w' := by
  have hm := manyUp_bd hO hT
  have hs := hO.1
  have hbd := loadTo_bd (ab := ab) (F := manyUp t) hl (fun k f hf => ⟨manyUp_bd (hF k f hf) hT, (hF k f hf).1⟩) l.length (Nat.le_refl _)
  have hb1 : Below w.heap.size w (w.alloc (.cells #[.int .i64 t] 3)) := (Below.refl _ _).alloc (Nat.le_refl _) _
  have hR := h.below hb1
  have hmul : 0 ≤ manyUp t own * own.size ∧ manyUp t own * own.size ≤ 200000000000 := by
    constructor
    · exact Int.mul_nonneg hm.1 (by omega)
    · have := Int.mul_le_mul hm.2 hs.2 (by omega) (by omega)
      omega
  have HFIN : Hid (busyS l ab block own t = block + manyUp t own * own.size + loadTo l ab (manyUp t) l.length) := rfl
  have HF := Lib.hid hF
  have HO := Lib.hid hO
  have n0 := newcell w #[.int .i64 t] 3 0
  simp only [List.getElem?_toArray, List.getElem?_cons_zero] at n0
  have hws : w.heap.size < (w.alloc (.cells #[.int .i64 t] 3)).heap.size := by simp
  clear hF hO h
  go_enter Try.func98, Try.ntmps98
  go_wp2_with fail
  generalize hW : w.alloc (.cells #[.int .i64 t] 3) = w5 at *
  clear hW
  have m0 := BW.cell (B := w5.heap.size) hR.hk hR.kc
  have m1 := BW.cell (B := w5.heap.size) hR.ho hR.o0
  have m2 := BW.cell (B := w5.heap.size) hR.ho hR.o1
  have m3 := BW.cell (B := w5.heap.size) hR.ho hR.o2
  have m4 := BW.cell (B := w5.heap.size) hR.ho hR.o3
  have m5 := BW.cell (B := w5.heap.size) hR.ho hR.o4
  have m6 := BW.cell (B := w5.heap.size) hR.hp hR.pc
  have m7 := BW.cell (B := w5.heap.size) hws n0
  have HC1 : Hid (∀ s : BW w5.heap.size w5, Calls Try.prog 99 #[frameV own, .pointer (some ⟨w.heap.size, 0, none⟩)] s.1 fun e w' => e = .returned (.int .i64 (manyUp t own)) ∧ Below s.1.heap.size s.1 w') := fun s => many99 own _ t s.1 HO.out hT (by have := s.2.size; omega) (m7 s)
  have HC2 : Hid (∀ s : BW w5.heap.size w5, Calls Try.prog 96 #[.func (.func 99) #[] #[.pointer (some ⟨w.heap.size, 0, none⟩)], .pointer (some ⟨lb, 0, none⟩), .pointer (some ⟨bb, 0, none⟩)] s.1 fun e w' => e = .returned (.int .i64 (loadTo l ab (manyUp t) l.length)) ∧ Below s.1.heap.size s.1 w') := fun s =>
    have hS := hR.below s.2
    load99 A cap l ab _ lb bb gb t s.1 hS.frames HF.out hl hT (m7 s) (by have := s.2.size; omega) hS.lc hS.hb hS.bc hS.og
  generalize manyUp t own = M at *
  generalize loadTo l ab (manyUp t) l.length = L at *
  have e1 : IntKind.i64.wrap (M * own.size) = M * own.size := IntWalk.i64_in _ (by omega)
  have e2 : IntKind.i64.wrap (block + M * own.size) = block + M * own.size := IntWalk.i64_in _ (by omega)
  have e3 : IntKind.i64.wrap (block + M * own.size + L) = block + M * own.size + L := IntWalk.i64_in _ (by omega)
  clear hR n0 m7
  refine wp_region_below w5.heap.size w5 (Below.refl _ _) (by kernel_rfl) (by kernel_rfl) ?_
  repeat (go_big_quiet_step (first | (go_at_call 99; exact quiet_below (Nat.le_refl _) (HC1.out _)) | (go_at_call 96; exact quiet_below (Nat.le_refl _) (HC2.out _))))
  refine wpQuiet_nil ?_
  clear e1 e2 e3 m0 m1 m2 m3 m4 m5 m6
  intro s
  go_wp2_with fail
  go_ret
  exact ⟨ret_i HFIN.out.symm, hb1.trans (s.2.mono (by omega))⟩
end Go.Proofs.Ytlbbhlkbhegegaa

/- Walks: the second closure that response settles. -/
namespace Go.Proofs.Ytlbbhlkbhegegaa
open Go.RowKit

def waitS (l : List MFrame) (ab : Nat → Bool) (block : Int) (own : MFrame) (q t : Int) : Int := block + q * own.size + loadTo l ab (manyAt t) l.length
set_option maxRecDepth 100000 in
set_option maxHeartbeats 1000000 in
theorem wait100 {A : Option Addr} {cap : Nat} {l : List MFrame} {ab : Nat → Bool} {lb bb gb kb ob pb : Nat} {block : Int} {own : MFrame} (qb : Nat) (q t : Int) (w : World) (h : REnv A cap l ab lb bb gb kb ob pb block own w) (hqb : qb < w.heap.size) (hqc : w.cell? ⟨qb, 0, none⟩ = some (.int .i64 q)) (hQ : 0 ≤ q ∧ q ≤ 10000000)
    (hF : ∀ (k : Nat) (f : MFrame), l[k]? = some f → FOk f) (hO : FOk own) (hl : l.length ≤ 40) (hT : 0 ≤ t ∧ t ≤ 100000000) (hB : 0 ≤ block ∧ block ≤ 1000) :
    Calls Try.prog 100 #[.int .i64 t, .pointer (some ⟨kb, 0, none⟩), .pointer (some ⟨qb, 0, none⟩), .pointer (some ⟨ob, 0, none⟩), .pointer (some ⟨pb, 0, none⟩)] w fun e w' => e = .returned (.int .i64 (waitS l ab block own q t)) ∧ Below w.heap.size w w' := by
  have hs := hO.1
  have hbd := loadTo_bd (ab := ab) (F := manyAt t) hl (fun k f hf => ⟨manyAt_bd (hF k f hf) hT, (hF k f hf).1⟩) l.length (Nat.le_refl _)
  have hb1 : Below w.heap.size w (w.alloc (.cells #[.int .i64 t] 3)) := (Below.refl _ _).alloc (Nat.le_refl _) _
  have hR := h.below hb1
  have hmul : 0 ≤ q * own.size ∧ q * own.size ≤ 200000000000 := by
    constructor
    · exact Int.mul_nonneg hQ.1 (by omega)
    · have := Int.mul_le_mul hQ.2 hs.2 (by omega) (by omega)
      omega
  have HFIN : Hid (waitS l ab block own q t = block + q * own.size + loadTo l ab (manyAt t) l.length) := rfl
  have HF := Lib.hid hF
  have n0 := newcell w #[.int .i64 t] 3 0
  simp only [List.getElem?_toArray, List.getElem?_cons_zero] at n0
  have hws : w.heap.size < (w.alloc (.cells #[.int .i64 t] 3)).heap.size := by simp
  have hqc5 := (bcell hb1 qb 0 hqb).trans hqc
  clear hF hO h hqc
  go_enter Try.func100, Try.ntmps100
  go_wp2_with fail
  generalize hW : w.alloc (.cells #[.int .i64 t] 3) = w5 at *
  clear hW
  have m0 := BW.cell (B := w5.heap.size) hR.hk hR.kc
  have m1 := BW.cell (B := w5.heap.size) hR.ho hR.o0
  have m6 := BW.cell (B := w5.heap.size) hR.hp hR.pc
  have m7 := BW.cell (B := w5.heap.size) hws n0
  have m8 := BW.cell (B := w5.heap.size) (show qb < w5.heap.size by omega) hqc5
  have HC2 : Hid (∀ s : BW w5.heap.size w5, Calls Try.prog 96 #[.func (.func 101) #[] #[.pointer (some ⟨w.heap.size, 0, none⟩)], .pointer (some ⟨lb, 0, none⟩), .pointer (some ⟨bb, 0, none⟩)] s.1 fun e w' => e = .returned (.int .i64 (loadTo l ab (manyAt t) l.length)) ∧ Below s.1.heap.size s.1 w') := fun s =>
    have hS := hR.below s.2
    load101 A cap l ab _ lb bb gb t s.1 hS.frames HF.out hl hT (m7 s) (by have := s.2.size; omega) hS.lc hS.hb hS.bc hS.og
  generalize loadTo l ab (manyAt t) l.length = L at *
  have e1 : IntKind.i64.wrap (q * own.size) = q * own.size := IntWalk.i64_in _ (by omega)
  have e2 : IntKind.i64.wrap (block + q * own.size) = block + q * own.size := IntWalk.i64_in _ (by omega)
  have e3 : IntKind.i64.wrap (block + q * own.size + L) = block + q * own.size + L := IntWalk.i64_in _ (by omega)
  clear hR n0 m7 hqc5
  refine wp_region_below w5.heap.size w5 (Below.refl _ _) (by kernel_rfl) (by kernel_rfl) ?_
  repeat (go_big_quiet_step ((go_at_call 96; exact quiet_below (Nat.le_refl _) (HC2.out _))))
  refine wpQuiet_nil ?_
  clear e1 e2 e3 m0 m1 m6 m8
  intro s
  go_wp2_with fail
  go_ret
  exact ⟨ret_i HFIN.out.symm, hb1.trans (s.2.mono (by omega))⟩
end Go.Proofs.Ytlbbhlkbhegegaa

/- Walks: bus.settle, at both of its functions. -/
namespace Go.Proofs.Ytlbbhlkbhegegaa
open Go.RowKit

def settleS (F : Int → Int) : Nat → Int → Option Int
  | 0, _ => none
  | m + 1, n => if n ≤ 1000000 then (if F n = n then some n else settleS F m (F n)) else none
theorem settle_hit {F : Int → Int} {m : Nat} {n : Int} (h : n ≤ 1000000) (he : F n = n) : settleS F (m + 1) n = some n := by rw [settleS, if_pos h, if_pos he]
theorem settle_next {F : Int → Int} {m : Nat} {n : Int} (h : n ≤ 1000000) (he : F n ≠ n) : settleS F (m + 1) n = settleS F m (F n) := by rw [settleS, if_pos h, if_neg he]
theorem settle_out {F : Int → Int} {m : Nat} {n : Int} (h : ¬ n ≤ 1000000) : settleS F (m + 1) n = none := by rw [settleS, if_neg h]
def settleV : Option Int → Value
  | some n => .tuple #[.int .i64 n, .bool true]
  | none => .tuple #[.int .i64 0, .bool false]

set_option maxHeartbeats 1000000 in
theorem settle98 {A : Option Addr} {cap : Nat} {l : List MFrame} {ab : Nat → Bool} {lb bb gb kb ob pb : Nat} {block : Int} {own : MFrame} (n0 : Int) (w : World) (h : REnv A cap l ab lb bb gb kb ob pb block own w) 
    (hF : ∀ (k : Nat) (f : MFrame), l[k]? = some f → FOk f) (hO : FOk own) (hl : l.length ≤ 40) (hB : 0 ≤ block ∧ block ≤ 1000) (hmono : ∀ a b, 0 ≤ a → a ≤ b → busyS l ab block own a ≤ busyS l ab block own b) (h0 : 0 ≤ n0 ∧ n0 ≤ busyS l ab block own n0) :
    Calls Try.prog 97 #[.int .i64 n0, .func (.func 98) #[] #[.pointer (some ⟨kb, 0, none⟩), .pointer (some ⟨ob, 0, none⟩), .pointer (some ⟨pb, 0, none⟩)]] w fun e w' => e = .returned (settleV (settleS (busyS l ab block own) 1000002 n0)) ∧ Below w.heap.size w w' := by
  have HF := Lib.hid hF
  have HO := Lib.hid hO
  have HM := Lib.hid hmono
  clear hF hO hmono
  go_enter Try.func97, Try.ntmps97
  go_wp2_with fail
  go_loopw [0] (fun v wr => ∃ (n : Int) (m : Nat), v = .int .i64 n ∧ 0 ≤ n ∧ Hid (n ≤ busyS l ab block own n ∧ (1000001 - n).toNat ≤ m ∧ settleS (busyS l ab block own) (m + 1) n = settleS (busyS l ab block own) 1000002 n0) ∧ Below w.heap.size w wr) (fun v _ => (1000001 - intOf v).toNat)
  case atStart => exact ⟨n0, 1000001, rfl, h0.1, ⟨h0.2, by omega, rfl⟩, Below.refl _ _⟩
  case round =>
    obtain ⟨n, m, rfl, hn, HR, hbw⟩ := hrel
    have hR := h.below hbw
    by_cases hlt : n ≤ 1000000
    · have HC : Hid (∀ x, busyS l ab block own n = x → Calls Try.prog 98 #[.int .i64 n, .pointer (some ⟨kb, 0, none⟩), .pointer (some ⟨ob, 0, none⟩), .pointer (some ⟨pb, 0, none⟩)] wr fun e w' => e = .returned (.int .i64 x) ∧ Below wr.heap.size wr w') := fun x hx => hx ▸ busy98 n wr hR HF.out HO.out hl (by omega) hB
      obtain ⟨m, rfl⟩ : ∃ m0, m = m0 + 1 := ⟨m - 1, by have := HR.out.2.1; omega⟩
      by_cases he : busyS l ab block own n = n
      · have HE := Lib.hid he
        clear he
        go_wp2_with (go_at_call 98; refine (HC.out n HE.out).mono ?_; rintro e w2 ⟨rfl, hb2⟩)
        go_ret2
        exact ⟨by rw [← HR.out.2.2, settle_hit hlt HE.out]; rfl, hbw.trans (hb2.mono hbw.size)⟩
      · generalize hx : busyS l ab block own n = x at he
        have HX := Lib.hid hx
        have hxn : n < x := by
          have := HR.out.1
          rw [hx] at this
          omega
        have he0 : (x == n) = false := by simpa using he
        clear hx he
        go_wp2_with (go_at_call 98; refine (HC.out x HX.out).mono ?_; rintro e w2 ⟨rfl, hb2⟩)
        go_roundw
        case rel =>
          refine ⟨x, m, rfl, by omega, ⟨?_, by have := HR.out.2.1; omega, ?_⟩, hbw.trans (hb2.mono hbw.size)⟩
          · have := HM.out n x hn (by omega)
            rw [HX.out] at this
            exact this
          · rw [← HR.out.2.2, settle_next (m := m + 1) hlt (by rw [HX.out]; omega), HX.out]
        case measure => simp [intOf]; omega
    · go_wp2_with fail
      go_ret2
      exact ⟨by rw [← HR.out.2.2, settle_out (show ¬ n ≤ 1000000 by omega)]; rfl, hbw⟩
set_option maxHeartbeats 1000000 in
theorem settle100 {A : Option Addr} {cap : Nat} {l : List MFrame} {ab : Nat → Bool} {lb bb gb kb ob pb : Nat} {block : Int} {own : MFrame} (qb : Nat) (q : Int) (n0 : Int) (w : World) (h : REnv A cap l ab lb bb gb kb ob pb block own w) (hqb : qb < w.heap.size) (hqc : w.cell? ⟨qb, 0, none⟩ = some (.int .i64 q)) (hQ : 0 ≤ q ∧ q ≤ 10000000)
    (hF : ∀ (k : Nat) (f : MFrame), l[k]? = some f → FOk f) (hO : FOk own) (hl : l.length ≤ 40) (hB : 0 ≤ block ∧ block ≤ 1000) (hmono : ∀ a b, 0 ≤ a → a ≤ b → waitS l ab block own q a ≤ waitS l ab block own q b) (h0 : 0 ≤ n0 ∧ n0 ≤ waitS l ab block own q n0) :
    Calls Try.prog 97 #[.int .i64 n0, .func (.func 100) #[] #[.pointer (some ⟨kb, 0, none⟩), .pointer (some ⟨qb, 0, none⟩), .pointer (some ⟨ob, 0, none⟩), .pointer (some ⟨pb, 0, none⟩)]] w fun e w' => e = .returned (settleV (settleS (waitS l ab block own q) 1000002 n0)) ∧ Below w.heap.size w w' := by
  have HF := Lib.hid hF
  have HO := Lib.hid hO
  have HM := Lib.hid hmono
  clear hF hO hmono
  go_enter Try.func97, Try.ntmps97
  go_wp2_with fail
  go_loopw [0] (fun v wr => ∃ (n : Int) (m : Nat), v = .int .i64 n ∧ 0 ≤ n ∧ Hid (n ≤ waitS l ab block own q n ∧ (1000001 - n).toNat ≤ m ∧ settleS (waitS l ab block own q) (m + 1) n = settleS (waitS l ab block own q) 1000002 n0) ∧ Below w.heap.size w wr) (fun v _ => (1000001 - intOf v).toNat)
  case atStart => exact ⟨n0, 1000001, rfl, h0.1, ⟨h0.2, by omega, rfl⟩, Below.refl _ _⟩
  case round =>
    obtain ⟨n, m, rfl, hn, HR, hbw⟩ := hrel
    have hR := h.below hbw
    by_cases hlt : n ≤ 1000000
    · have HC : Hid (∀ x, waitS l ab block own q n = x → Calls Try.prog 100 #[.int .i64 n, .pointer (some ⟨kb, 0, none⟩), .pointer (some ⟨qb, 0, none⟩), .pointer (some ⟨ob, 0, none⟩), .pointer (some ⟨pb, 0, none⟩)] wr fun e w' => e = .returned (.int .i64 x) ∧ Below wr.heap.size wr w') := fun x hx => hx ▸ wait100 qb q n wr hR (by have := hbw.size; omega) ((bcell hbw qb 0 hqb).trans hqc) hQ HF.out HO.out hl (by omega) hB
      obtain ⟨m, rfl⟩ : ∃ m0, m = m0 + 1 := ⟨m - 1, by have := HR.out.2.1; omega⟩
      by_cases he : waitS l ab block own q n = n
      · have HE := Lib.hid he
        clear he
        go_wp2_with (go_at_call 100; refine (HC.out n HE.out).mono ?_; rintro e w2 ⟨rfl, hb2⟩)
        go_ret2
        exact ⟨by rw [← HR.out.2.2, settle_hit hlt HE.out]; rfl, hbw.trans (hb2.mono hbw.size)⟩
      · generalize hx : waitS l ab block own q n = x at he
        have HX := Lib.hid hx
        have hxn : n < x := by
          have := HR.out.1
          rw [hx] at this
          omega
        have he0 : (x == n) = false := by simpa using he
        clear hx he
        go_wp2_with (go_at_call 100; refine (HC.out x HX.out).mono ?_; rintro e w2 ⟨rfl, hb2⟩)
        go_roundw
        case rel =>
          refine ⟨x, m, rfl, by omega, ⟨?_, by have := HR.out.2.1; omega, ?_⟩, hbw.trans (hb2.mono hbw.size)⟩
          · have := HM.out n x hn (by omega)
            rw [HX.out] at this
            exact this
          · rw [← HR.out.2.2, settle_next (m := m + 1) hlt (by rw [HX.out]; omega), HX.out]
        case measure => simp [intOf]; omega
    · go_wp2_with fail
      go_ret2
      exact ⟨by rw [← HR.out.2.2, settle_out (show ¬ n ≤ 1000000 by omega)]; rfl, hbw⟩
end Go.Proofs.Ytlbbhlkbhegegaa

/- Plain laws on loads: they grow with time; and what response answers. -/
namespace Go.Proofs.Ytlbbhlkbhegegaa
open Go.RowKit

theorem manyUp_mono {f : MFrame} (hf : FOk f) {a b : Int} (h : a ≤ b) : manyUp a f ≤ manyUp b f := by
  unfold manyUp
  exact Int.ediv_le_ediv (by have := hf.2.1.1; omega) (by omega)
theorem manyAt_mono {f : MFrame} (hf : FOk f) {a b : Int} (h : a ≤ b) : manyAt a f ≤ manyAt b f := by
  unfold manyAt
  have := Int.ediv_le_ediv (a := a + f.jitter) (b := b + f.jitter) (c := f.every) (by have := hf.2.1.1; omega) (by omega)
  omega
theorem loadTo_mono {l : List MFrame} {ab : Nat → Bool} {F G : MFrame → Int} (h : ∀ (k : Nat) (f : MFrame), l[k]? = some f → F f ≤ G f ∧ 0 ≤ f.size) : ∀ k, k ≤ l.length → loadTo l ab F k ≤ loadTo l ab G k
  | 0, _ => Int.le_refl _
  | k + 1, hk => by
    have h1 := loadTo_mono (ab := ab) h k (by omega)
    have hf : l[k]? = some l[k] := List.getElem?_eq_getElem (by omega)
    have h2 := h k _ hf
    rw [loadTo_succ hf, loadTo_succ hf]
    have h3 : F l[k] * l[k].size ≤ G l[k] * l[k].size := Int.mul_le_mul_of_nonneg_right h2.1 h2.2
    split <;> omega
theorem busyS_mono {l : List MFrame} {ab : Nat → Bool} {block : Int} {own : MFrame} (hF : ∀ (k : Nat) (f : MFrame), l[k]? = some f → FOk f) (hO : FOk own) {a b : Int} (h : a ≤ b) : busyS l ab block own a ≤ busyS l ab block own b := by
  unfold busyS
  have h1 := loadTo_mono (l := l) (ab := ab) (F := manyUp a) (G := manyUp b) (fun k f hf => ⟨manyUp_mono (hF k f hf) h, by have := (hF k f hf).1.1; omega⟩) l.length (Nat.le_refl _)
  have h2 := Int.mul_le_mul_of_nonneg_right (manyUp_mono hO h) (show 0 ≤ own.size by have := hO.1.1; omega)
  omega
theorem waitS_mono {l : List MFrame} {ab : Nat → Bool} {block q : Int} {own : MFrame} (hF : ∀ (k : Nat) (f : MFrame), l[k]? = some f → FOk f) {a b : Int} (h : a ≤ b) : waitS l ab block own q a ≤ waitS l ab block own q b := by
  unfold waitS
  have h1 := loadTo_mono (l := l) (ab := ab) (F := manyAt a) (G := manyAt b) (fun k f hf => ⟨manyAt_mono (hF k f hf) h, by have := (hF k f hf).1.1; omega⟩) l.length (Nat.le_refl _)
  omega
/-- what stands in the way: the greatest size less 1 of the first k frames that are neither the frame nor above it -/
def blockTo (l : List MFrame) (ab : Nat → Bool) (i : Nat) : Nat → Int
  | 0 => 0
  | k + 1 => if k ≠ i ∧ ab k = false then max (blockTo l ab i k) ((l.getD k ⟨0, 0, 0, 0, 0⟩).size - 1) else blockTo l ab i k
/-- the longest of the first q waits; none: one has none -/
def longTo (l : List MFrame) (ab : Nat → Bool) (block : Int) (own : MFrame) : Nat → Option Int
  | 0 => some 0
  | q + 1 => match longTo l ab block own q with
    | none => none
    | some m => match settleS (waitS l ab block own q) 1000002 (block + q * own.size) with
      | none => none
      | some w => some (max m (w + own.size + own.jitter - q * own.every))
def respS (l : List MFrame) (ab : Nat → Bool) (i : Nat) : Option Int :=
  let own := l.getD i ⟨0, 0, 0, 0, 0⟩
  let block := blockTo l ab i l.length
  match settleS (busyS l ab block own) 1000002 1 with
  | none => none
  | some busy => longTo l ab block own ((busy + own.jitter + own.every - 1) / own.every).toNat
end Go.Proofs.Ytlbbhlkbhegegaa

/- Plain laws on settle. -/
namespace Go.Proofs.Ytlbbhlkbhegegaa
open Go.RowKit
theorem settle_fix {F : Int → Int} {x : Int} : ∀ (m : Nat) (n : Int), settleS F m n = some x → F x = x ∧ x ≤ 1000000
  | 0, _, h => by simp [settleS] at h
  | m + 1, n, h => by
    rw [settleS] at h
    by_cases h1 : n ≤ 1000000
    · rw [if_pos h1] at h
      by_cases h2 : F n = n
      · rw [if_pos h2] at h
        injection h with h
        subst h
        exact ⟨h2, h1⟩
      · rw [if_neg h2] at h
        exact settle_fix m _ h
    · rw [if_neg h1] at h
      cases h
theorem settle_ge {F : Int → Int} {x n0 : Int} (hF : ∀ y, n0 ≤ y → n0 ≤ F y) : ∀ (m : Nat) (n : Int), n0 ≤ n → settleS F m n = some x → n0 ≤ x
  | 0, _, _, h => by simp [settleS] at h
  | m + 1, n, hn, h => by
    rw [settleS] at h
    by_cases h1 : n ≤ 1000000
    · rw [if_pos h1] at h
      by_cases h2 : F n = n
      · rw [if_pos h2] at h
        injection h with h
        subst h
        exact hn
      · rw [if_neg h2] at h
        exact settle_ge hF m _ (hF n hn) h
    · rw [if_neg h1] at h
      cases h
end Go.Proofs.Ytlbbhlkbhegegaa

/- Walks: bus.response. -/
namespace Go.Proofs.Ytlbbhlkbhegegaa
open Go.RowKit

theorem blockTo_bd {l : List MFrame} {ab : Nat → Bool} {i : Nat} (hF : ∀ (k : Nat) (f : MFrame), l[k]? = some f → FOk f) : ∀ k, k ≤ l.length → 0 ≤ blockTo l ab i k ∧ blockTo l ab i k ≤ 999
  | 0, _ => by simp [blockTo]
  | k + 1, hk => by
    have h1 := blockTo_bd (ab := ab) (i := i) hF k (by omega)
    have hf : l[k]? = some l[k] := List.getElem?_eq_getElem (by omega)
    have h2 := (hF k _ hf).1
    unfold blockTo
    rw [show l.getD k ⟨0, 0, 0, 0, 0⟩ = l[k] by rw [List.getD_eq_getElem?_getD, hf]; rfl]
    split <;> omega
theorem blockTo_succ {l : List MFrame} {ab : Nat → Bool} {i k : Nat} {f : MFrame} (hf : l[k]? = some f) : blockTo l ab i (k + 1) = if k ≠ i ∧ ab k = false then max (blockTo l ab i k) (f.size - 1) else blockTo l ab i k := by
  rw [blockTo, show l.getD k ⟨0, 0, 0, 0, 0⟩ = f by rw [List.getD_eq_getElem?_getD, hf]; rfl]

/-- as REnv, ahead of the closure's box; the frames lie below block B0 -/
structure RE0 (B0 : Nat) (A : Option Addr) (cap : Nat) (l : List MFrame) (ab : Nat → Bool) (lb bb gb kb ob : Nat) (block : Int) (own : MFrame) (w : World) : Prop where
  frames : FramesA w B0 A l
  hlb : B0 ≤ lb
  hbb : lb < bb
  hgb : gb < B0
  hob : bb < ob
  hkb : ob < kb
  hk : kb < w.heap.size
  lc : w.cell? ⟨lb, 0, none⟩ = some (.slice A l.length cap)
  bc : w.cell? ⟨bb, 0, none⟩ = some (.slice (some ⟨gb, 0, none⟩) l.length l.length)
  og : OwnF w gb 4 l.length (fun j => .bool (ab j))
  kc : w.cell? ⟨kb, 0, none⟩ = some (.int .i64 block)
  kf : w.frozen? ⟨kb, 0, none⟩ = false
  o0 : w.cell? ⟨ob, 0, none⟩ = some (.int .i64 own.size)
  o1 : w.cell? ⟨ob, 1, none⟩ = some (.int .i64 own.every)
  o2 : w.cell? ⟨ob, 2, none⟩ = some (.int .i64 own.jitter)
  o3 : w.cell? ⟨ob, 3, none⟩ = some (.int .i64 own.due)
  o4 : w.cell? ⟨ob, 4, none⟩ = some (.int .i64 own.rank)
section
variable {B0 : Nat} {A : Option Addr} {cap : Nat} {l : List MFrame} {ab : Nat → Bool} {lb bb gb kb ob : Nat} {block : Int} {own : MFrame} {w w' : World}
theorem RE0.below (h : RE0 B0 A cap l ab lb bb gb kb ob block own w) {B : Nat} (hb : Below B w w') (hB : kb < B) : RE0 B0 A cap l ab lb bb gb kb ob block own w' := by
  have a1 := h.hlb
  have a2 := h.hbb
  have a3 := h.hgb
  have a4 := h.hob
  have a5 := h.hkb
  have hs := hb.size
  have a6 := h.hk
  exact ⟨h.frames.below (hb.mono (B' := B0) (by omega)) (Nat.le_refl _), a1, a2, a3, a4, a5, by omega, (bcell hb _ _ (by omega)).trans h.lc, (bcell hb _ _ (by omega)).trans h.bc, h.og.below hb (by omega), (bcell hb _ _ (by omega)).trans h.kc,
    (bfrozen hb _ _ (by omega)).trans h.kf, (bcell hb _ _ (by omega)).trans h.o0, (bcell hb _ _ (by omega)).trans h.o1, (bcell hb _ _ (by omega)).trans h.o2, (bcell hb _ _ (by omega)).trans h.o3, (bcell hb _ _ (by omega)).trans h.o4⟩
theorem cell_far' {b b' o o' : Nat} {u : Value} (h : b ≠ b') : (w.setCell ⟨b', o', none⟩ u).cell? ⟨b, o, none⟩ = w.cell? ⟨b, o, none⟩ :=
  World.cell?_of_block (w := w) (Below.heap_setCell w ⟨b', o', none⟩ u b h)
theorem RE0.setK (h : RE0 B0 A cap l ab lb bb gb kb ob block own w) (x : Int) : RE0 B0 A cap l ab lb bb gb kb ob x own (w.setCell ⟨kb, 0, none⟩ (.int .i64 x)) := by
  have a1 := h.hlb
  have a2 := h.hbb
  have a3 := h.hgb
  have a4 := h.hob
  have a5 := h.hkb
  have a6 := h.hk
  have hb : Below kb w (w.setCell ⟨kb, 0, none⟩ (.int .i64 x)) := (Below.refl _ _).setCell (p := ⟨kb, 0, none⟩) (Nat.le_refl _) _
  refine ⟨h.frames.below (hb.mono (B' := B0) (by omega)) (Nat.le_refl _), a1, a2, a3, a4, a5, by simpa using a6, (bcell hb _ _ (by omega)).trans h.lc, (bcell hb _ _ (by omega)).trans h.bc, h.og.below hb (by omega), ?_, ?_,
    (bcell hb _ _ (by omega)).trans h.o0, (bcell hb _ _ (by omega)).trans h.o1, (bcell hb _ _ (by omega)).trans h.o2, (bcell hb _ _ (by omega)).trans h.o3, (bcell hb _ _ (by omega)).trans h.o4⟩
  · exact World.cell?_setCell_same' w _ _ (by rw [h.kc]; rfl)
  · have := h.kf
    simpa using this
end
theorem RE0.env {B0 : Nat} {A : Option Addr} {cap : Nat} {l : List MFrame} {ab : Nat → Bool} {lb bb gb kb ob : Nat} {block : Int} {own : MFrame} {w : World} (h : RE0 B0 A cap l ab lb bb gb kb ob block own w) :
    REnv A cap l ab lb bb gb kb ob w.heap.size block own (w.alloc (.cells #[.func (.func 96) #[] #[.pointer (some ⟨lb, 0, none⟩), .pointer (some ⟨bb, 0, none⟩)]] 136)) := by
  have hb : Below w.heap.size w (w.alloc (.cells #[.func (.func 96) #[] #[.pointer (some ⟨lb, 0, none⟩), .pointer (some ⟨bb, 0, none⟩)]] 136)) := (Below.refl _ _).alloc (Nat.le_refl _) _
  have h1 := h.below hb h.hk
  have a1 := h.hlb
  have a2 := h.hbb
  have a3 := h.hgb
  have a4 := h.hob
  have a5 := h.hkb
  have a6 := h.hk
  have hs : w.heap.size < (w.alloc (.cells #[.func (.func 96) #[] #[.pointer (some ⟨lb, 0, none⟩), .pointer (some ⟨bb, 0, none⟩)]] 136)).heap.size := by simp
  exact ⟨h1.frames.more (by omega), by omega, h1.lc, by omega, h1.bc, h1.og, by omega, h1.kc, by omega, h1.o0, h1.o1, h1.o2, h1.o3, h1.o4, hs, newcell _ _ _ _⟩
theorem busy_start {l : List MFrame} {ab : Nat → Bool} {block : Int} {own : MFrame} (hF : ∀ (k : Nat) (f : MFrame), l[k]? = some f → FOk f) (hO : FOk own) (hl : l.length ≤ 40) (hB : 0 ≤ block) : 1 ≤ busyS l ab block own 1 := by
  unfold busyS
  have h1 := loadTo_bd (ab := ab) (F := manyUp 1) hl (fun k f hf => ⟨manyUp_bd (hF k f hf) (by omega), (hF k f hf).1⟩) l.length (Nat.le_refl _)
  have h2 : 1 ≤ manyUp 1 own := by
    unfold manyUp
    exact (Int.le_ediv_iff_mul_le (by have := hO.2.1.1; omega)).2 (by have := hO.2.2.2.1.1; omega)
  have h3 : 1 * 1 ≤ manyUp 1 own * own.size := Int.mul_le_mul h2 hO.1.1 (by omega) (by omega)
  omega

theorem loadTo_nn {l : List MFrame} {ab : Nat → Bool} {t : Int} (hF : ∀ (k : Nat) (f : MFrame), l[k]? = some f → FOk f) (ht : 0 ≤ t) : ∀ k, k ≤ l.length → 0 ≤ loadTo l ab (manyAt t) k
  | 0, _ => Int.le_refl _
  | k + 1, hk => by
    have h1 := loadTo_nn (ab := ab) hF ht k (by omega)
    have hf : l[k]? = some l[k] := List.getElem?_eq_getElem (by omega)
    have h2 := hF k _ hf
    rw [loadTo_succ hf]
    have h3 : 0 ≤ manyAt t l[k] := by
      unfold manyAt
      have : 0 ≤ (t + l[k].jitter) / l[k].every := Int.ediv_nonneg (by have := h2.2.2.2.1.1; omega) (by have := h2.2.1.1; omega)
      omega
    have h4 : 0 ≤ manyAt t l[k] * l[k].size := Int.mul_nonneg h3 (by have := h2.1.1; omega)
    split <;> omega
theorem longTo_none {l : List MFrame} {ab : Nat → Bool} {block : Int} {own : MFrame} {q : Nat} (h : longTo l ab block own q = none) : ∀ d, longTo l ab block own (q + d) = none
  | 0 => h
  | d + 1 => by rw [← Nat.add_assoc, longTo, longTo_none h d]
theorem longTo_no {l : List MFrame} {ab : Nat → Bool} {block : Int} {own : MFrame} {q : Nat} {m : Int} (h : longTo l ab block own q = some m) (hs : settleS (waitS l ab block own q) 1000002 (block + q * own.size) = none) : longTo l ab block own (q + 1) = none := by
  rw [longTo, h]; simp only [hs]
theorem longTo_yes {l : List MFrame} {ab : Nat → Bool} {block : Int} {own : MFrame} {q : Nat} {m x : Int} (h : longTo l ab block own q = some m) (hs : settleS (waitS l ab block own q) 1000002 (block + q * own.size) = some x) : longTo l ab block own (q + 1) = some (max m (x + own.size + own.jitter - q * own.every)) := by
  rw [longTo, h]; simp only [hs]

set_option maxRecDepth 100000 in
set_option maxHeartbeats 2000000 in
theorem response_any (A : Option Addr) (cap : Nat) (l : List MFrame) (ab : Nat → Bool) (i gb : Nat) (own : MFrame) (w : World) (h : FramesA w w.heap.size A l) (hF : ∀ (k : Nat) (f : MFrame), l[k]? = some f → FOk f) (hl : l.length ≤ 40) (hi : l[i]? = some own) (hil : i < l.length)
    (hG : OwnF w gb 4 l.length (fun j => .bool (ab j))) :
    Calls Try.prog 65 #[.slice A l.length cap, .int .i64 i, .slice (some ⟨gb, 0, none⟩) l.length l.length] w fun e w' => e = .returned (settleV (respS l ab i)) ∧ Below w.heap.size w w' := by
  have hgl := hG.lt
  obtain ⟨own', b, off, hi', hA, hbb, c0, c1, c2, c3, c4⟩ := h.at_ hil
  rw [hi] at hi'
  injection hi' with hi'
  subst hi'
  subst hA
  have HI := Lib.hid hi
  have HF := Lib.hid hF
  have HO := Lib.hid (hF i own hi)
  clear hi hF
  go_enter Try.func65, Try.ntmps65
  go_wp2_with fail
  have hb1 : Below w.heap.size w ((((w.alloc (.cells #[.slice (some ⟨b, off, none⟩) l.length cap] 34)).alloc (.cells #[.slice (some ⟨gb, 0, none⟩) l.length l.length] 89)).alloc (.cells #[.int .i64 own.size, .int .i64 own.every, .int .i64 own.jitter, .int .i64 own.due, .int .i64 own.rank] 41)).alloc (.cells #[.int .i64 0] 3)) :=
    ((((Below.refl _ _).alloc (Nat.le_refl _) _).alloc (by simp) _).alloc (by simp; omega) _).alloc (by simp; omega) _
  have hE : RE0 w.heap.size (some ⟨b, off, none⟩) cap l ab w.heap.size (w.heap.size + 1) gb (w.heap.size + 1 + 1 + 1) (w.heap.size + 1 + 1) 0 own ((((w.alloc (.cells #[.slice (some ⟨b, off, none⟩) l.length cap] 34)).alloc (.cells #[.slice (some ⟨gb, 0, none⟩) l.length l.length] 89)).alloc (.cells #[.int .i64 own.size, .int .i64 own.every, .int .i64 own.jitter, .int .i64 own.due, .int .i64 own.rank] 41)).alloc (.cells #[.int .i64 0] 3)) := by
    refine ⟨h.keep hb1, Nat.le_refl _, by omega, hgl, by omega, by omega, by simp, ?_, ?_, hG.below hb1 hgl, ?_, ?_, ?_, ?_, ?_, ?_, ?_⟩
    all_goals go_simp
  generalize hW : World.alloc _ (Obj.cells #[.int .i64 0] 3) = w4 at *
  clear hW c0 c1 c2 c3 c4 hG
  go_loopw [25] (fun v wr => ∃ k : Nat, k ≤ l.length ∧ v = .int .i64 k ∧ RE0 w.heap.size (some ⟨b, off, none⟩) cap l ab w.heap.size (w.heap.size + 1) gb (w.heap.size + 1 + 1 + 1) (w.heap.size + 1 + 1) (blockTo l ab i k) own wr ∧ Below w.heap.size w wr) (fun v _ => l.length - (intOf v).toNat)
  case atStart => exact ⟨0, Nat.zero_le _, rfl, hE, hb1⟩
  case round =>
    clear hE hb1
    obtain ⟨k, hk, rfl, hE, hbw⟩ := hrel
    have hkb := hE.hk
    by_cases hlt : k < l.length
    · obtain ⟨f, b', off', hf, he, hbb', c0, c1, c2, c3, c4⟩ := hE.frames.at_ hlt
      injection he with he
      injection he with he1 he2
      subst he1
      subst he2
      have hfo := HF.out k f hf
      have hfs := hfo.1
      have hbd := blockTo_bd (ab := ab) (i := i) HF.out k (by omega)
      have HB := Lib.hid (blockTo_succ (ab := ab) (i := i) hf)
      clear hf hfo
      have hb2 : Below (w.heap.size + 4) wr (wr.alloc (.cells #[.int .i64 f.size, .int .i64 f.every, .int .i64 f.jitter, .int .i64 f.due, .int .i64 f.rank] 41)) := (Below.refl _ _).alloc (by omega) _
      have hE2 := hE.below hb2 (by omega)
      have q1 := hE2.bc
      have q2 := hE2.og.cell hlt
      have q3 := hE2.kc
      have q4 := hE2.kf
      generalize blockTo l ab i k = S at *
      by_cases hki : k = i
      · subst hki
        have hk1 : ((k : Int) != (k : Int)) = false := by simp
        go_wp2_with fail
        go_roundw
        case rel => exact ⟨k + 1, by omega, by go_num, by rw [HB.out, if_neg (by simp)]; exact hE2, hbw.trans (hb2.mono (by omega))⟩
        case measure => simp [intOf]; omega
      · have hk1 : ((k : Int) != (i : Int)) = true := by rw [bne_iff_ne]; omega
        rcases hab : ab k
        all_goals
          rw [hab] at q2
          have HAB := Lib.hid hab
          clear hab
          go_wp2_with fail
        · go_roundw
          case rel =>
            refine ⟨k + 1, by omega, by go_num, ?_, hbw.trans ((((Below.refl _ _).setCell (p := ⟨w.heap.size + 1 + 1 + 1, 0, none⟩) (by simp; omega) _).alloc (by simp; omega) _))⟩
            rw [HB.out, if_pos ⟨hki, HAB.out⟩, show max S (f.size - 1) = if S < f.size - 1 then f.size - 1 else S by split <;> omega]
            exact (hE.setK _).below (B := wr.heap.size) ((Below.refl _ _).alloc (by simp) _) hkb
          case measure => simp [intOf]; omega
        · go_roundw
          case rel => exact ⟨k + 1, by omega, by go_num, by rw [HB.out, if_neg (by rw [HAB.out]; simp)]; exact hE2, hbw.trans (hb2.mono (by omega))⟩
          case measure => simp [intOf]; omega
    · obtain rfl : k = l.length := by omega
      have hR := hE.env
      have hBd := blockTo_bd (ab := ab) (i := i) HF.out l.length (Nat.le_refl _)
      have HRES : Hid (respS l ab i = match settleS (busyS l ab (blockTo l ab i l.length) own) 1000002 1 with
          | none => none
          | some busy => longTo l ab (blockTo l ab i l.length) own ((busy + own.jitter + own.every - 1) / own.every).toNat) := by
        have e : l.getD i ⟨0, 0, 0, 0, 0⟩ = own := by rw [List.getD_eq_getElem?_getD, HI.out]; rfl
        show respS l ab i = _
        simp only [respS, e]
        all_goals rfl
      generalize blockTo l ab i l.length = bl at *
      have hb3 : Below w.heap.size w (wr.alloc (.cells #[.func (.func 96) #[] #[.pointer (some ⟨w.heap.size, 0, none⟩), .pointer (some ⟨w.heap.size + 1, 0, none⟩)]] 136)) := hbw.trans ((Below.refl _ _).alloc (by omega) _)
      have hst := settle98 1 _ hR HF.out HO.out hl (by omega) (fun a b _ h => busyS_mono HF.out HO.out h) ⟨by omega, busy_start HF.out HO.out hl hBd.1⟩
      have hge : ∀ x, settleS (busyS l ab bl own) 1000002 1 = some x → 1 ≤ x := fun x hx => settle_ge (F := busyS l ab bl own) (n0 := 1) (fun y hy => Int.le_trans (busy_start HF.out HO.out hl hBd.1) (busyS_mono HF.out HO.out hy)) _ _ (Int.le_refl _) hx
      rcases hs : settleS (busyS l ab bl own) 1000002 1 with _ | busy
      · rw [hs] at hst
        have HS := Lib.hid hs
        have HST := Lib.hid hst
        clear hs hst hge
        go_wp2_with (go_at_call 97; refine HST.out.mono ?_; rintro e w7 ⟨rfl, hb7⟩; unfold settleV)
        go_ret2
        exact ⟨by rw [HRES.out, HS.out]; rfl, hb3.trans (hb7.mono hb3.size)⟩
      · rw [hs] at hst
        have hbge := hge _ hs
        have hble := (settle_fix _ _ hs).2
        have HS := Lib.hid hs
        have HST := Lib.hid hst
        clear hs hst hge
        have hoj := HO.out.2.2.2.1
        have hoe := HO.out.2.1
        have hos := HO.out.1
        go_wp2_with (first | (go_at_call 97; refine HST.out.mono ?_; rintro e w7 ⟨rfl, hb7⟩; have hR7 := hR.below hb7; have q1 := hR7.o1; have q2 := hR7.o2; unfold settleV) | (go_at_call 60; refine (up_any _ _ _ (by omega) (by omega) (by omega) (by omega)).mono ?_; rintro e w' ⟨rfl, rfl⟩))
        have hQ : 0 ≤ (busy + own.jitter + own.every - 1) / own.every ∧ (busy + own.jitter + own.every - 1) / own.every ≤ 1300000 := ⟨Int.ediv_nonneg (by omega) (by omega), by have := Int.ediv_le_self (a := busy + own.jitter + own.every - 1) own.every (by omega); omega⟩
        obtain ⟨Q, hQe⟩ : ∃ Q : Nat, (busy + own.jitter + own.every - 1) / own.every = (Q : Int) := ⟨((busy + own.jitter + own.every - 1) / own.every).toNat, by omega⟩
        have HRES2 : Hid (respS l ab i = longTo l ab bl own Q) := by show _ = _; rw [HRES.out, HS.out]; show longTo l ab bl own ((busy + own.jitter + own.every - 1) / own.every).toNat = _; rw [hQe]; rfl
        rw [hQe] at hQ
        rw [hQe]
        clear q1 q2 hQe
        have hb4 := hb3.trans (hb7.mono hb3.size)
        obtain ⟨wo, rfl⟩ : ∃ wo : World, wo = wr := ⟨_, rfl⟩
        go_loopw [15, 61] (fun m v wr => ∃ (q : Nat) (x : Int), q ≤ Q ∧ v = .int .i64 q ∧ m = .int .i64 x ∧ 0 ≤ x ∧ x ≤ 2000000 ∧ Hid (longTo l ab bl own q = some x) ∧ Below w7.heap.size w7 wr) (fun _ v _ => Q - (intOf v).toNat)
        case atStart => exact ⟨0, 0, Nat.zero_le _, rfl, rfl, by omega, by omega, rfl, Below.refl _ _⟩
        case round =>
          obtain ⟨q, x, hq, rfl, rfl, hx0, hx1, HLO, hbw7⟩ := hrel
          have hRw := hR7.below hbw7
          by_cases hlq : q < Q
          · have hb5 : Below wr.heap.size wr (wr.alloc (.cells #[.int .i64 (q : Int)] 3)) := (Below.refl _ _).alloc (Nat.le_refl _) _
            have hRq := hRw.below hb5
            have hmul : 0 ≤ (q : Int) * own.size ∧ (q : Int) * own.size ≤ 1300000000 := by
              constructor
              · exact Int.mul_nonneg (by omega) (by omega)
              · have := Int.mul_le_mul (show (q : Int) ≤ 1300000 by omega) hos.2 (by omega) (by omega)
                omega
            have n0 := newcell wr #[.int .i64 (q : Int)] 3 0
            simp only [List.getElem?_toArray, List.getElem?_cons_zero] at n0
            have hlo : ∀ y, 0 ≤ y → bl + q * own.size ≤ waitS l ab bl own q y := fun y hy => by
              have := loadTo_nn (ab := ab) HF.out hy l.length (Nat.le_refl _)
              unfold waitS
              omega
            have hst := settle100 wr.heap.size (q : Int) (bl + q * own.size) _ hRq (by simp) n0 (by omega) HF.out HO.out hl (by omega) (fun a b _ h => waitS_mono HF.out h) ⟨by omega, hlo _ (by omega)⟩
            have q0 := hRq.kc
            have q1 := hRq.o0
            have HLOW := Lib.hid hlo
            clear hlo
            rcases hs2 : settleS (waitS l ab bl own q) 1000002 (bl + q * own.size) with _ | x2
            · rw [hs2] at hst
              have HS2 := Lib.hid hs2
              have HST2 := Lib.hid hst
              clear hs2 hst
              go_wp2_with (go_at_call 97; refine HST2.out.mono ?_; rintro e w8 ⟨rfl, hb8⟩; unfold settleV)
              go_ret2
              obtain ⟨d, rfl⟩ : ∃ d, Q = q + 1 + d := ⟨Q - (q + 1), by omega⟩
              exact ⟨by rw [HRES2.out, longTo_none (longTo_no HLO.out HS2.out)]; rfl, hb4.trans ((hbw7.trans (hb5.mono hbw7.size)).trans (hb8.mono (by simp; have := hbw7.size; omega)) |>.mono (by have := hb7.size; have := hb3.size; omega))⟩
            · rw [hs2] at hst
              have hxge := settle_ge (F := waitS l ab bl own q) (n0 := bl + q * own.size) (fun y hy => HLOW.out y (by omega)) _ _ (Int.le_refl _) hs2
              have hxle := (settle_fix _ _ hs2).2
              have HS2 := Lib.hid hs2
              have HST2 := Lib.hid hst
              clear hs2 hst
              have hmul2 : 0 ≤ (q : Int) * own.every ∧ (q : Int) * own.every ≤ 130000000000 := by
                constructor
                · exact Int.mul_nonneg (by omega) (by omega)
                · have := Int.mul_le_mul (show (q : Int) ≤ 1300000 by omega) hoe.2 (by omega) (by omega)
                  omega
              go_wp2_with (go_at_call 97; refine HST2.out.mono ?_; rintro e w8 ⟨rfl, hb8⟩; have hR8 := hRq.below hb8; have r0 := hR8.o0; have r1 := hR8.o1; have r2 := hR8.o2; have r3 := (bcell hb8 wr.heap.size 0 (by simp)).trans n0; unfold settleV)
              go_roundw
              case rel =>
                refine ⟨q + 1, max x (x2 + own.size + own.jitter - q * own.every), by omega, by go_num, ?_, by omega, by omega, ?_, (hbw7.trans (hb5.mono hbw7.size)).trans (hb8.mono (by simp; have := hbw7.size; omega))⟩
                · refine int_c ?_
                  split <;> omega
                · show _ = _
                  rw [longTo_yes HLO.out HS2.out]
              case measure => simp [intOf]; omega
          · obtain rfl : q = Q := by omega
            go_wp2_with fail
            go_ret2
            exact ⟨by rw [HRES2.out, HLO.out]; rfl, hb4.trans (hbw7.mono (by have := hb7.size; have := hb3.size; omega))⟩
end Go.Proofs.Ytlbbhlkbhegegaa

/- Walks: bus.higher. -/
namespace Go.Proofs.Ytlbbhlkbhegegaa
open Go.RowKit

def higherB (l : List MFrame) (r : Int) (j : Nat) : Bool := decide ((l.getD j ⟨0, 0, 0, 0, 0⟩).rank < r)
theorem higherB_of {l : List MFrame} {j : Nat} {f : MFrame} {r : Int} (h : l[j]? = some f) : higherB l r j = decide (f.rank < r) := by
  unfold higherB; rw [List.getD_eq_getElem?_getD, h]; rfl
set_option maxHeartbeats 1000000 in
theorem higher_any (A : Option Addr) (cap : Nat) (l : List MFrame) (i : Nat) (own : MFrame) (w : World) (h : FramesA w w.heap.size A l) (hl : l.length ≤ 40) (hi : l[i]? = some own) (hil : i < l.length) :
    Calls Try.prog 66 #[.slice A l.length cap, .int .i64 i] w fun e w' => ∃ gb, e = .returned (.slice (some ⟨gb, 0, none⟩) l.length l.length) ∧ w.heap.size ≤ gb ∧ OwnF w' gb 4 l.length (fun j => .bool (higherB l own.rank j)) ∧ Below w.heap.size w w' := by
  have HI := Lib.hid hi
  clear hi
  go_enter Try.func66, Try.ntmps66
  go_wp2_with (at_make; refine mk_bools _ rfl _ _ rfl l.length rfl rfl (by omega) ?_; intro w2 hG hb2)
  have hgl := hG.lt
  go_loopw [13] (fun v wr => ∃ k : Nat, k ≤ l.length ∧ v = .int .i64 k ∧ OwnF wr w.heap.size 4 l.length (fun j => .bool (if j < k then higherB l own.rank j else false)) ∧ Below w.heap.size w wr) (fun v _ => l.length - (intOf v).toNat)
  case atStart => exact ⟨0, Nat.zero_le _, rfl, hG.congr (fun j _ => by simp), hb2⟩
  case round =>
    clear hG hgl
    obtain ⟨k, hk, rfl, hG, hbw⟩ := hrel
    have hgl := hG.lt
    by_cases hlt : k < l.length
    · obtain ⟨f, b, off, hf, rfl, hbb, c0, c1, c2, c3, c4⟩ := (h.keep hbw).at_ hlt
      obtain ⟨f', b', off', hf', he, _, _, _, _, _, d4⟩ := (h.keep hbw).at_ hil
      rw [HI.out] at hf'
      injection hf' with hf'
      injection he with he
      injection he with he1 he2
      subst hf'
      subst he1
      subst he2
      have HB := Lib.hid (higherB_of (r := own.rank) hf)
      clear hf
      have hb1 : Below w.heap.size wr (wr.alloc (.cells #[.int .i64 f.size, .int .i64 f.every, .int .i64 f.jitter, .int .i64 f.due, .int .i64 f.rank] 41)) := (Below.refl _ _).alloc (by omega) _
      have hG1 := hG.alloc (.cells #[.int .i64 f.size, .int .i64 f.every, .int .i64 f.jitter, .int .i64 f.due, .int .i64 f.rank] 41)
      have n4 := newcell wr #[.int .i64 f.size, .int .i64 f.every, .int .i64 f.jitter, .int .i64 f.due, .int .i64 f.rank] 41 4
      simp only [List.getElem?_toArray, List.getElem?_cons_succ, List.getElem?_cons_zero] at n4
      have d4' := (bcell hb1 b (off + i * 5 + 4) hbb).trans d4
      go_wp2_with fail
      generalize hW : wr.alloc (.cells #[.int .i64 f.size, .int .i64 f.every, .int .i64 f.jitter, .int .i64 f.due, .int .i64 f.rank] 41) = w5 at *
      have gf := hG1.frozen k
      have gc := hG1.cell hlt
      clear hW c0 c1 c2 c3 c4 d4
      refine wp_region_quiet_tail 11 (by kernel_rfl) (by kernel_rfl) ?_
      simp only [List.take_succ_cons, List.take_zero, List.drop_succ_cons, List.drop_zero]
      repeat (go_big_quiet_step (fail))
      refine wpQuiet_nil ?_
      go_wp2_with fail
      go_roundw
      case rel =>
        refine ⟨k + 1, by omega, by go_num, ((hG1.set k (.bool (decide (f.rank < own.rank)))).drewN 1).congr fun j _ => ?_, (hbw.trans hb1).trans (((Below.refl _ _).setCell (p := ⟨w.heap.size, k, none⟩) (Nat.le_refl _) _).drew)⟩
        by_cases h1 : j = k
        · subst h1; rw [if_pos rfl, if_pos (by omega), HB.out]
        · rw [if_neg h1]
          by_cases h2 : j < k
          · rw [if_pos h2, if_pos (by omega)]
          · rw [if_neg h2, if_neg (by omega)]
      case measure => simp [intOf]; omega
    · obtain rfl : k = l.length := by omega
      go_wp2_with fail
      go_ret
      exact ⟨w.heap.size, rfl, Nat.le_refl _, hG.congr fun j hj => by rw [if_pos hj], hbw⟩
end Go.Proofs.Ytlbbhlkbhegegaa

/- Walks: bus.Responses. -/
namespace Go.Proofs.Ytlbbhlkbhegegaa
open Go.RowKit

/-- the response of frame i: none, it has none -/
def respI (l : List MFrame) (i : Nat) : Option Int := respS l (higherB l (l.getD i ⟨0, 0, 0, 0, 0⟩).rank) i
theorem respI_of {l : List MFrame} {i : Nat} {own : MFrame} (h : l[i]? = some own) : respI l i = respS l (higherB l own.rank) i := by
  unfold respI; rw [List.getD_eq_getElem?_getD, h]; rfl
def respZ (l : List MFrame) (i : Nat) : Int := (respI l i).getD (-1)
def respL (l : List MFrame) : List Int := if framesB l = true then (List.range l.length).map (respZ l) else []
theorem longTo_bd {l : List MFrame} {ab : Nat → Bool} {block : Int} {own : MFrame} (hO : FOk own) : ∀ (q : Nat) (x : Int), longTo l ab block own q = some x → 0 ≤ x ∧ x ≤ 2000000
  | 0, x, h => by rw [longTo] at h; injection h with h; omega
  | q + 1, x, h => by
    rw [longTo] at h
    rcases h1 : longTo l ab block own q with _ | m
    · rw [h1] at h; cases h
    · rw [h1] at h
      have hm := longTo_bd hO q m h1
      rcases h2 : settleS (waitS l ab block own q) 1000002 (block + q * own.size) with _ | y
      · simp only [h2] at h; cases h
      · simp only [h2] at h
        injection h with h
        have h3 := (settle_fix _ _ h2).2
        have h4 : 0 ≤ (q : Int) * own.every := Int.mul_nonneg (by omega) (by have := hO.2.1; omega)
        have h5 := hO.1
        have h6 := hO.2.2.2.1
        omega
theorem respS_bd {l : List MFrame} {ab : Nat → Bool} {i : Nat} {own : MFrame} (hi : l[i]? = some own) (hO : FOk own) {x : Int} (h : respS l ab i = some x) : 0 ≤ x ∧ x ≤ 2000000 := by
  have e : l.getD i ⟨0, 0, 0, 0, 0⟩ = own := by rw [List.getD_eq_getElem?_getD, hi]; rfl
  simp only [respS, e] at h
  rcases h1 : settleS (busyS l ab (blockTo l ab i l.length) own) 1000002 1 with _ | b
  · rw [h1] at h; cases h
  · rw [h1] at h
    exact longTo_bd hO _ _ h
/-- what a function hands back that answers a list of ints and an error -/
def RetLE (w : World) (l : List Int) (c : Int) (e : Ending) (w' : World) : Prop :=
  Below w.heap.size w w' ∧ ∃ A cap, e = .returned (.tuple #[.slice A l.length cap, .int .i64 c]) ∧ l.length ≤ cap ∧ IntsA w' w'.heap.size A l
theorem RetLE.err {w w' : World} {c c' : Int} {l : List Int} (hl : l = []) (hc : c' = c) (hb : Below w.heap.size w w') : RetLE w l c (.returned (.tuple #[.slice none 0 0, .int .i64 c'])) w' := by
  subst hl
  subst hc
  exact ⟨hb, none, 0, rfl, Nat.le_refl _, by simp, fun h => by simp at h⟩
theorem RetLE.out {w w' : World} {base : Nat} {v : Value} {l l' : List Int} (hl : l = l') (hb : Below w.heap.size w w') (h : OutI w' base v l) : RetLE w l' 0 (.returned (.tuple #[v, .int .i64 0])) w' := by
  subst hl
  obtain ⟨A, cap, rfl, h1, h2⟩ := h.reads
  exact ⟨hb, A, cap, rfl, h1, h2⟩
theorem framesF {l : List MFrame} (h : framesB l = true) : ∀ (k : Nat) (f : MFrame), l[k]? = some f → FOk f := fun k f hf => by
  have h1 := (framesB_parts h).2 k f hf
  exact ⟨h1.1, h1.2.1, h1.2.2.1, h1.2.2.2.1, by omega, h1.2.2.2.2.2⟩

set_option maxRecDepth 100000 in
set_option maxHeartbeats 2000000 in
theorem responses_any (A : Option Addr) (cap : Nat) (l : List MFrame) (w : World) (h : FramesA w w.heap.size A l) (hcap : l.length ≤ cap) :
    Calls Try.prog 25 #[.slice A l.length cap] w (RetLE w (respL l) (fcheckS l)) := by
  have hC := fcheck_any A cap l w h hcap
  rcases hv : framesB l
  · have HE := Lib.hid (show respL l = [] by unfold respL; rw [hv]; rfl)
    rw [fcheck_no hv] at hC ⊢
    have HC := Lib.hid hC
    clear hC hv
    go_enter Try.func25, Try.ntmps25
    go_wp2_with (go_at_call 37; refine HC.out.mono ?_; rintro e w1 ⟨rfl, hb1⟩)
    go_ret2
    exact RetLE.err HE.out rfl hb1
  · have HF := Lib.hid (framesF hv)
    have hl := (framesB_parts hv).1
    have HE := Lib.hid (show respL l = (List.range l.length).map (respZ l) by unfold respL; rw [hv]; rfl)
    rw [fcheck_yes hv] at hC ⊢
    have HC := Lib.hid hC
    clear hC hv
    go_enter Try.func25, Try.ntmps25
    go_wp2_with (go_at_call 37; refine HC.out.mono ?_; rintro e w1 ⟨rfl, hb1⟩)
    go_loopw [2, 15] (fun v i wr => ∃ k : Nat, k ≤ l.length ∧ i = .int .i64 k ∧ OutI wr w.heap.size v ((List.range k).map (respZ l)) ∧ Below w.heap.size w wr) (fun _ i _ => l.length - (intOf i).toNat)
    case atStart => exact ⟨0, Nat.zero_le _, rfl, OutI.nil _ _, hb1⟩
    case round =>
      clear hb1
      obtain ⟨k, hk, rfl, hOut, hbw⟩ := hrel
      have hlen : ((List.range k).map (respZ l)).length ≤ 40 := by simp; omega
      have hlen2 : ((List.range k).map (respZ l)).length = k := by simp
      have HSN := Lib.hid (show (List.range (k + 1)).map (respZ l) = (List.range k).map (respZ l) ++ [respZ l k] by rw [List.range_succ, List.map_append]; rfl)
      generalize hL : (List.range k).map (respZ l) = L at *
      have HL := Lib.hid hL
      have HL2 := Lib.hid hlen2
      clear hL hlen2
      obtain ⟨Ab, cb, rfl, hcb, _⟩ := hOut.lenV
      have hsz := hbw.size
      by_cases hlt : k < l.length
      · have hi : l[k]? = some l[k] := List.getElem?_eq_getElem hlt
        generalize l[k] = own at hi
        have hfr := (h.keep hbw).more hsz
        have hH := higher_any A cap l k own wr hfr hl hi hlt
        have hR : ∀ gb w1, Below wr.heap.size wr w1 → OwnF w1 gb 4 l.length (fun j => .bool (higherB l own.rank j)) → Calls Try.prog 65 #[.slice A l.length cap, .int .i64 k, .slice (some ⟨gb, 0, none⟩) l.length l.length] w1 fun e w' => e = .returned (settleV (respS l (higherB l own.rank) k)) ∧ Below w1.heap.size w1 w' :=
          fun gb w1 hb hG => response_any A cap l (higherB l own.rank) k gb own w1 ((hfr.keep hb).more hb.size) HF.out hl hi hlt hG
        have HZ : Hid (respZ l k = (respS l (higherB l own.rank) k).getD (-1)) := by show _ = _; rw [respZ, respI_of hi]
        have hO := HF.out k own hi
        have HI := Lib.hid hi
        rcases ho : respS l (higherB l own.rank) k with _ | x
        · rw [ho] at hR
          have HR := Lib.hid hR
          have HH := Lib.hid hH
          have HX := Lib.hid (show respZ l k = -1 by rw [HZ.out, ho]; rfl)
          clear hR hH ho hi hO
          go_wp2_with (first
            | (go_at_call 66; refine HH.out.mono ?_; rintro e w2 ⟨gb, rfl, hgb, hG, hb2⟩)
            | (go_at_call 65; refine (HR.out _ _ hb2 hG).mono ?_; rintro e w3 ⟨rfl, hb3⟩; unfold settleV; have hO3 : OutI (w3.alloc (.cells #[.int .i64 (-1)] 3)) w.heap.size _ _ := World.ownsRow.alloc (own_below hOut (hb2.trans (hb3.mono hb2.size)) (fun g hg => (own_block_lt hOut g hg).2)) _)
            | (at_builtin; refine app_int _ rfl _ _ rfl w.heap.size _ _ rfl hO3 w3.heap.size (-1) rfl (newcell _ _ _ _) (by omega) (by simp; have := hb2.size; have := hb3.size; omega) ?_; intro v' w6 hO6 hg6))
          go_roundw
          case rel =>
            refine ⟨k + 1, by omega, by go_num, by rw [HSN.out, HX.out]; exact hO6, ?_⟩
            have a1 := hb2.size
            have a2 := hb3.size
            exact ((hbw.trans (hb2.mono hsz)).trans (hb3.mono (by omega))).trans ((((Below.refl _ _).alloc (by omega) _)).grown hg6 (by simp; omega) (fun g hg => (own_block_lt hO3 g hg).1))
          case measure => simp [intOf]; omega
        · rw [ho] at hR
          have HR := Lib.hid hR
          have HH := Lib.hid hH
          have HX := Lib.hid (show respZ l k = x by rw [HZ.out, ho]; rfl)
          have hxb := respS_bd hi hO ho
          clear hR hH ho hi hO
          go_wp2_with (first
            | (go_at_call 66; refine HH.out.mono ?_; rintro e w2 ⟨gb, rfl, hgb, hG, hb2⟩)
            | (go_at_call 65; refine (HR.out _ _ hb2 hG).mono ?_; rintro e w3 ⟨rfl, hb3⟩; unfold settleV; have hO3 : OutI (w3.alloc (.cells #[.int .i64 x] 3)) w.heap.size _ _ := World.ownsRow.alloc (own_below hOut (hb2.trans (hb3.mono hb2.size)) (fun g hg => (own_block_lt hOut g hg).2)) _)
            | (at_builtin; refine app_int _ rfl _ _ rfl w.heap.size _ _ rfl hO3 w3.heap.size x rfl (newcell _ _ _ _) (by omega) (by simp; have := hb2.size; have := hb3.size; omega) ?_; intro v' w6 hO6 hg6))
          go_roundw
          case rel =>
            refine ⟨k + 1, by omega, by go_num, by rw [HSN.out, HX.out]; exact hO6, ?_⟩
            have a1 := hb2.size
            have a2 := hb3.size
            exact ((hbw.trans (hb2.mono hsz)).trans (hb3.mono (by omega))).trans ((((Below.refl _ _).alloc (by omega) _)).grown hg6 (by simp; omega) (fun g hg => (own_block_lt hO3 g hg).1))
          case measure => simp [intOf]; omega
      · obtain rfl : k = l.length := by omega
        go_wp2_with fail
        go_ret2
        exact RetLE.out (by rw [HE.out, HL.out]) hbw hOut
end Go.Proofs.Ytlbbhlkbhegegaa
