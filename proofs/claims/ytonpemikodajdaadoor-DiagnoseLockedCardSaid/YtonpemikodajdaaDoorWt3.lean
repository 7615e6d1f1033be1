/- Codes as plain data and in memory; walk: find (a binary search). -/
import Derived.Test.YtonpemikodajdaaDoorWt2
namespace Go.Proofs.YtonpemikodajdaaDoor
open Go.RowKit

structure MCode where
  mon : Int
  first : Int
  last : Int
  count : Int
  frame : List Int
  active : Bool
def dCode : MCode := ⟨0, 0, 0, 0, [], false⟩
def codeCell (l : List MCode) (pv : Nat → Option Addr × Nat) (i j : Nat) : Value :=
  if j = 0 then .int .i64 (l.getD i dCode).mon else if j = 1 then .int .i64 (l.getD i dCode).first else if j = 2 then .int .i64 (l.getD i dCode).last else if j = 3 then .int .i64 (l.getD i dCode).count else if j = 4 then .slice (pv i).1 (l.getD i dCode).frame.length (pv i).2 else .bool (l.getD i dCode).active
def CodesA (w : World) (B : Nat) (A : Option Addr) (l : List MCode) : Prop :=
  l.length ≤ 1000000 ∧ ∃ pv : Nat → Option Addr × Nat, SlA w B 6 A l.length (codeCell l pv) ∧ ∀ i, i < l.length → (l.getD i dCode).frame.length ≤ (pv i).2 ∧ IntsA w B (pv i).1 (l.getD i dCode).frame
theorem CodesA.at_ {w : World} {B : Nat} {A : Option Addr} {l : List MCode} (h : CodesA w B A l) {k : Nat} (hk : k < l.length) :
    ∃ f b off Ap cp, l.getD k dCode = f ∧ A = some ⟨b, off, none⟩ ∧ b < B ∧ w.cell? ⟨b, off + k * 6, none⟩ = some (.int .i64 f.mon) ∧ w.cell? ⟨b, off + k * 6 + 1, none⟩ = some (.int .i64 f.first) ∧ w.cell? ⟨b, off + k * 6 + 2, none⟩ = some (.int .i64 f.last) ∧
      w.cell? ⟨b, off + k * 6 + 3, none⟩ = some (.int .i64 f.count) ∧ w.cell? ⟨b, off + k * 6 + 4, none⟩ = some (.slice Ap f.frame.length cp) ∧ w.cell? ⟨b, off + k * 6 + 5, none⟩ = some (.bool f.active) ∧ f.frame.length ≤ cp ∧ IntsA w B Ap f.frame := by
  obtain ⟨_, pv, h, hp⟩ := h
  obtain ⟨b, off, hA, hlt, hc⟩ := h (by omega)
  have c0 := hc k 0 hk (by omega)
  have c1 := hc k 1 hk (by omega)
  have c2 := hc k 2 hk (by omega)
  have c3 := hc k 3 hk (by omega)
  have c4 := hc k 4 hk (by omega)
  have c5 := hc k 5 hk (by omega)
  have hp' := hp k hk
  exact ⟨_, b, off, (pv k).1, (pv k).2, rfl, hA, hlt, by simpa [codeCell] using c0, by simpa [codeCell] using c1, by simpa [codeCell] using c2, by simpa [codeCell] using c3, by simpa [codeCell] using c4, by simpa [codeCell] using c5, hp'.1, hp'.2⟩
theorem CodesA.below {w w' : World} {B B' : Nat} {A : Option Addr} {l : List MCode} (h : CodesA w B A l) (hb : Below B' w w') (hB : B ≤ B') : CodesA w' B' A l := by
  obtain ⟨hl, pv, h, hp⟩ := h
  exact ⟨hl, pv, h.below hb hB, fun i hi => ⟨(hp i hi).1, (hp i hi).2.below hb hB⟩⟩
theorem CodesA.more {w : World} {B B' : Nat} {A : Option Addr} {l : List MCode} (h : CodesA w B A l) (hB : B ≤ B') : CodesA w B' A l := by
  obtain ⟨hl, pv, h, hp⟩ := h
  exact ⟨hl, pv, h.more hB, fun i hi => ⟨(hp i hi).1, (hp i hi).2.more hB⟩⟩
theorem CodesA.keep {w w' : World} {B : Nat} {A : Option Addr} {l : List MCode} (h : CodesA w B A l) (hb : Below B w w') : CodesA w' B A l := h.below hb (Nat.le_refl _)

/-- where a code stands, or would stand -/
def FindP (l : List MCode) (t : Int) (i : Nat) (b : Bool) : Prop :=
  i ≤ l.length ∧ (∀ k, k < i → (l.getD k dCode).mon < t) ∧ (∀ k, i ≤ k → k < l.length → t ≤ (l.getD k dCode).mon) ∧ (b = true ↔ i < l.length ∧ (l.getD i dCode).mon = t)
/-- in ascending order of their monitors, which are small -/
def AscC (l : List MCode) : Prop := (∀ i j, i < j → j < l.length → (l.getD i dCode).mon < (l.getD j dCode).mon) ∧ ∀ i, i < l.length → 0 ≤ (l.getD i dCode).mon ∧ (l.getD i dCode).mon ≤ 1000000
theorem clo120 (m f l c t : Int) (v : Value) (a : Bool) (w : World) (hm : 0 ≤ m ∧ m ≤ 1000000) (ht : 0 ≤ t ∧ t ≤ 1000000) :
    Calls Tryd.prog 120 #[.agg #[.int .i64 m, .int .i64 f, .int .i64 l, .int .i64 c, v, .bool a], .int .i64 t] w fun e w' => e = .returned (.int .i64 (m - t)) ∧ Below w.heap.size w w' := by
  have hn0 := newcell w #[.int .i64 m, .int .i64 f, .int .i64 l, .int .i64 c, v, .bool a] 46 0
  have hb : Below w.heap.size w (w.alloc (.cells #[.int .i64 m, .int .i64 f, .int .i64 l, .int .i64 c, v, .bool a] 46)) := (Below.refl _ _).alloc (Nat.le_refl _) _
  go_enter Tryd.func120, Tryd.ntmps120
  go_wp2_with fail
  go_ret
  exact ⟨ret_i (by rfl), hb⟩
set_option maxRecDepth 100000 in
set_option maxHeartbeats 4000000 in
theorem search_any (A : Option Addr) (cap : Nat) (l : List MCode) (t : Int) (w : World) (h : CodesA w w.heap.size A l) (hs : AscC l) (ht : 0 ≤ t ∧ t ≤ 1000000) :
    Calls Tryd.prog 119 #[.slice A l.length cap, .int .i64 t, .func (.func 120) #[] #[]] w fun e w' => (∃ (i : Nat) (b : Bool), e = .returned (.tuple #[.int .i64 i, .bool b]) ∧ FindP l t i b) ∧ Below w.heap.size w w' := by
  have hlen := h.1
  go_enter Tryd.func119, Tryd.ntmps119
  go_wp2_with fail
  go_loopw [9, 10] (fun vi vj wr => ∃ i j : Nat, i ≤ j ∧ j ≤ l.length ∧ vi = .int .i64 i ∧ vj = .int .i64 j ∧ Hid (∀ k, k < i → (l.getD k dCode).mon < t) ∧ Hid (∀ k, j ≤ k → k < l.length → t ≤ (l.getD k dCode).mon) ∧ Below w.heap.size w wr) (fun vi vj _ => (intOf vj - intOf vi).toNat)
  case atStart => exact ⟨0, l.length, by omega, Nat.le_refl _, rfl, rfl, fun k hk => by omega, fun k h1 h2 => by omega, Below.refl _ _⟩
  case round =>
    obtain ⟨i, j, hij, hj, rfl, rfl, HI, HJ, hbw⟩ := hrel
    by_cases hlt : i < j
    · have hqi : i ≤ (i + j) / 2 := by omega
      have hqj : (i + j) / 2 < j := by omega
      have hql : (i + j) / 2 < l.length := by omega
      obtain ⟨f, b, off, Ap, cp, hf, rfl, hblt, c0, c1, c2, c3, c4, c5, hcp, hfr⟩ := (h.keep hbw).at_ hql
      have HF := Lib.hid hf
      have hfm := hs.2 _ hql
      rw [hf] at hfm
      have HC := Lib.hid (clo120 f.mon f.first f.last f.count t (.slice Ap f.frame.length cp) f.active wr hfm ht)
      clear hf
      by_cases hd : f.mon < t
      · have HD := Lib.hid hd
        go_wp2_with (go_at_call 120; refine HC.out.mono ?_; rintro e w2 ⟨rfl, hb2⟩)
        go_roundw
        case rel =>
          refine ⟨(i + j) / 2 + 1, j, by omega, hj, by go_num, rfl, fun k hk => ?_, HJ.out, hbw.trans (hb2.mono hbw.size)⟩
          rcases Nat.lt_or_ge k ((i + j) / 2) with h1 | h1
          · have := hs.1 k _ h1 hql
            rw [HF.out] at this
            omega
          · obtain rfl : k = (i + j) / 2 := by omega
            rw [HF.out]
            exact HD.out
        case measure => simp [intOf]; omega
      · have HD := Lib.hid hd
        go_wp2_with (go_at_call 120; refine HC.out.mono ?_; rintro e w2 ⟨rfl, hb2⟩)
        go_roundw
        case rel =>
          refine ⟨i, (i + j) / 2, by omega, by omega, rfl, by go_num, HI.out, fun k h1 h2 => ?_, hbw.trans (hb2.mono hbw.size)⟩
          rcases Nat.lt_or_ge ((i + j) / 2) k with h3 | h3
          · have := hs.1 _ k h3 h2
            rw [HF.out] at this
            have := HD.out
            omega
          · obtain rfl : k = (i + j) / 2 := by omega
            rw [HF.out]
            have := HD.out
            omega
        case measure => simp [intOf]; omega
    · obtain rfl : i = j := by omega
      by_cases hil : i < l.length
      · obtain ⟨f, b, off, Ap, cp, hf, rfl, hblt, c0, c1, c2, c3, c4, c5, hcp, hfr⟩ := (h.keep hbw).at_ hil
        have HF := Lib.hid hf
        have hfm := hs.2 _ hil
        rw [hf] at hfm
        have HC := Lib.hid (clo120 f.mon f.first f.last f.count t (.slice Ap f.frame.length cp) f.active wr hfm ht)
        clear hf
        by_cases hd : f.mon = t
        · have HD := Lib.hid hd
          have hd0 : f.mon - t = 0 := by omega
          clear hd
          go_wp2_with (go_at_call 120; refine HC.out.mono ?_; rintro e w2 ⟨rfl, hb2⟩)
          go_ret2
          refine ⟨⟨i, _, rfl, hj, HI.out, HJ.out, ?_⟩, hbw.trans (hb2.mono hbw.size)⟩
          rw [HF.out]
          simp [hil]
          omega
        · have HD := Lib.hid hd
          have hd0 : f.mon - t ≠ 0 := by omega
          clear hd
          go_wp2_with (go_at_call 120; refine HC.out.mono ?_; rintro e w2 ⟨rfl, hb2⟩)
          go_ret2
          refine ⟨⟨i, _, rfl, hj, HI.out, HJ.out, ?_⟩, hbw.trans (hb2.mono hbw.size)⟩
          rw [HF.out]
          simp [hil]
          omega
      · obtain rfl : i = l.length := by omega
        go_wp2_with fail
        go_ret2
        exact ⟨⟨_, false, rfl, hj, HI.out, HJ.out, by simp⟩, hbw⟩
theorem find_any (A : Option Addr) (cap : Nat) (l : List MCode) (t : Int) (w : World) (h : CodesA w w.heap.size A l) (hs : AscC l) (ht : 0 ≤ t ∧ t ≤ 1000000) :
    Calls Tryd.prog 106 #[.slice A l.length cap, .int .i64 t] w fun e w' => (∃ (i : Nat) (b : Bool), e = .returned (.tuple #[.int .i64 i, .bool b]) ∧ FindP l t i b) ∧ Below w.heap.size w w' := by
  have HC := Lib.hid (search_any A cap l t w h hs ht)
  go_enter Tryd.func106, Tryd.ntmps106
  go_wp2_with (go_at_call 119; refine HC.out.mono ?_; rintro e w2 ⟨⟨i, b, rfl, hi⟩, hb2⟩; have HI := Lib.hid hi; clear hi)
  go_ret2
  exact ⟨⟨i, b, rfl, HI.out⟩, hb2⟩
end Go.Proofs.YtonpemikodajdaaDoor
