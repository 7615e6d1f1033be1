/- Walks: lawful and what it calls; the rows of a watch. -/
import Derived.Test.YtonpemikodajdaaDoorWt1
namespace Go.Proofs.YtonpemikodajdaaDoor
open Go.RowKit

def sigB (n : Int) (m : MMon) : Bool := decide (m.sig < n)
def lawB (l : List MMon) (row : List Int) : Bool := inB row.length 1 20 && (row.all bMil && l.all (sigB row.length))
def monV (m : MMon) : Value := .agg #[.int .i64 m.sig, .int .i64 m.low, .int .i64 m.high, .int .i64 m.up, .int .i64 m.down, .int .i64 m.limit, .int .i64 m.heal]
theorem clo89 (m : MMon) (tb : Nat) (A : Option Addr) (n cap : Nat) (w : World) (htb : w.cell? ⟨tb, 0, none⟩ = some (.slice A n cap)) (hlt : tb < w.heap.size) {r : Bool} (hr : sigB n m = r) :
    Calls Tryd.prog 89 #[.agg #[.int .i64 m.sig, .int .i64 m.low, .int .i64 m.high, .int .i64 m.up, .int .i64 m.down, .int .i64 m.limit, .int .i64 m.heal], .pointer (some ⟨tb, 0, none⟩)] w fun e w' => e = .returned (.bool !r) ∧ Below w.heap.size w w' := by
  have hc : (w.alloc (.cells #[.int .i64 m.sig, .int .i64 m.low, .int .i64 m.high, .int .i64 m.up, .int .i64 m.down, .int .i64 m.limit, .int .i64 m.heal] 44)).cell? ⟨tb, 0, none⟩ = some (.slice A n cap) := (acell w _ _ _ hlt).trans htb
  have hn0 := newcell w #[.int .i64 m.sig, .int .i64 m.low, .int .i64 m.high, .int .i64 m.up, .int .i64 m.down, .int .i64 m.limit, .int .i64 m.heal] 44 0
  have hb : Below w.heap.size w (w.alloc (.cells #[.int .i64 m.sig, .int .i64 m.low, .int .i64 m.high, .int .i64 m.up, .int .i64 m.down, .int .i64 m.limit, .int .i64 m.heal] 44)) := (Below.refl _ _).alloc (Nat.le_refl _) _
  have HR := Lib.hid hr
  clear hr
  go_enter Tryd.func89, Tryd.ntmps89
  go_wp2_with fail
  go_ret
  refine ⟨ret_b ?_, hb⟩
  rw [← HR.out]
  unfold sigB
  by_cases h : m.sig < n
  · rw [decide_eq_true h, decide_eq_false (by omega)]; rfl
  · rw [decide_eq_false h, decide_eq_true (by omega)]; rfl
set_option maxHeartbeats 1000000 in
theorem idx89 (A : Option Addr) (cap : Nat) (l : List MMon) (tb : Nat) (A2 : Option Addr) (n cap2 : Nat) (w : World) (h : MonsA w w.heap.size A l) (htb : w.cell? ⟨tb, 0, none⟩ = some (.slice A2 n cap2)) (hltb : tb < w.heap.size) :
    Calls Tryd.prog 113 #[.slice A l.length cap, .func (.func 89) #[] #[.pointer (some ⟨tb, 0, none⟩)]] w fun e w' => (∃ i : Int, e = .returned (.int .i64 i) ∧ IdxB i (l.all (sigB n))) ∧ Below w.heap.size w w' := by
  have hlen := h.1
  unfold maxLen at hlen
  go_enter Tryd.func113, Tryd.ntmps113
  go_wp2_with fail
  go_loopw [8] (fun i wr => ∃ k : Nat, k ≤ l.length ∧ i = .int .i64 k ∧ Hid (∀ (j : Nat) (m : MMon), j < k → l[j]? = some m → sigB n m = true) ∧ Below w.heap.size w wr) (fun i _ => l.length - (intOf i).toNat)
  case atStart => exact ⟨0, Nat.zero_le _, rfl, fun j m hj => by omega, Below.refl _ _⟩
  case round =>
    obtain ⟨k, hk, rfl, HI, hbw⟩ := hrel
    by_cases hlt : k < l.length
    · obtain ⟨m, b, off, ht, rfl, hblt, t0, t1, t2, t3, t4, t5, t6⟩ := (h.keep hbw).at_ hlt
      have HT := Lib.hid ht
      have hc := (bcell hbw tb 0 hltb).trans htb
      rcases hx : sigB n m
      all_goals
        have HX := Lib.hid hx
        have HC := Lib.hid (clo89 m tb A2 n cap2 wr hc (Nat.lt_of_lt_of_le hltb hbw.size) hx)
        clear hx ht
        go_wp2_with (go_at_call 89; refine HC.out.mono ?_; rintro e w2 ⟨rfl, hb2⟩)
      · go_ret
        refine ⟨⟨k, rfl, ⟨fun _ => ?_, fun _ => by omega⟩⟩, hbw.trans (hb2.mono hbw.size)⟩
        exact all_no HT.out HX.out
      · go_roundw
        case rel => exact ⟨k + 1, by omega, by go_num, upto_snoc HI.out HT.out HX.out, hbw.trans (hb2.mono hbw.size)⟩
        case measure => simp [intOf]; omega
    · obtain rfl : k = l.length := by omega
      go_wp2_with fail
      go_ret
      refine ⟨⟨-1, rfl, ⟨fun h => by omega, fun h => ?_⟩⟩, hbw⟩
      rw [all_yes HI.out] at h
      cases h
theorem con89 (A : Option Addr) (cap : Nat) (l : List MMon) (tb : Nat) (A2 : Option Addr) (n cap2 : Nat) (w : World) (h : MonsA w w.heap.size A l) (htb : w.cell? ⟨tb, 0, none⟩ = some (.slice A2 n cap2)) (hltb : tb < w.heap.size) {b : Bool} (he : l.all (sigB n) = b) :
    Calls Tryd.prog 88 #[.slice A l.length cap, .func (.func 89) #[] #[.pointer (some ⟨tb, 0, none⟩)]] w fun e w' => e = .returned (.bool !b) ∧ Below w.heap.size w w' := by
  have HC := Lib.hid (idx89 A cap l tb A2 n cap2 w h htb hltb)
  have HE := Lib.hid he
  clear he
  go_enter Tryd.func88, Tryd.ntmps88
  go_wp2_with (go_at_call 113; refine HC.out.mono ?_; rintro e w2 ⟨⟨i, rfl, hi⟩, hb2⟩; have HI := Lib.hid hi; clear hi)
  go_ret
  refine ⟨ret_b ?_, hb2⟩
  rcases b with _ | _
  · exact decide_eq_true (HI.out.2 HE.out)
  · exact decide_eq_false fun h => by have := HI.out.1 h; rw [HE.out] at this; cases this
set_option maxHeartbeats 1000000 in
theorem lawful_any (A : Option Addr) (cap : Nat) (l : List MMon) (R : Option Addr) (rc : Nat) (row : List Int) (w : World) (h : MonsA w w.heap.size A l) (hr : IntsA w w.heap.size R row) {b : Bool} (hb : lawB l row = b) :
    Calls Tryd.prog 51 #[.slice A l.length cap, .slice R row.length rc] w fun e w' => e = .returned (.bool b) ∧ Below w.heap.size w w' := by
  have hb1 : Below w.heap.size w (w.alloc (.cells #[.slice R row.length rc] 24)) := (Below.refl _ _).alloc (Nat.le_refl _) _
  have hn0 := newcell w #[.slice R row.length rc] 24 0
  have hlt : w.heap.size < (w.alloc (.cells #[.slice R row.length rc] 24)).heap.size := by simp
  obtain ⟨y0, hy0⟩ : ∃ y, inB row.length 1 20 = y := ⟨_, rfl⟩
  obtain ⟨y1, hy1⟩ : ∃ y, row.all bMil = y := ⟨_, rfl⟩
  obtain ⟨y2, hy2⟩ : ∃ y, l.all (sigB row.length) = y := ⟨_, rfl⟩
  have hlb : lawB l row = (y0 && (y1 && y2)) := by unfold lawB; rw [hy0, hy1, hy2]
  rw [hlb] at hb
  have HB := Lib.hid hb
  have H0 := Lib.hid (within_b (row.length : Int) 1 20 y0 (w.alloc (.cells #[.slice R row.length rc] 24)) hy0)
  have H1 := Lib.hid (con87 R rc row (w.alloc (.cells #[.slice R row.length rc] 24)) w.heap.size (hr.keep hb1) hy1)
  have H2 := Lib.hid (con89 A cap l w.heap.size R row.length rc (w.alloc (.cells #[.slice R row.length rc] 24)) ((h.keep hb1).more (by simp)) hn0 hlt hy2)
  clear hb hlb hy0 hy1 hy2
  have hlen := hr.1
  unfold maxLen at hlen
  rcases y0 with _ | _
  · go_enter Tryd.func51, Tryd.ntmps51
    go_wp2_with (go_at_call 66; refine H0.out.mono ?_; rintro e w2 ⟨rfl, rfl⟩)
    go_ret
    exact ⟨ret_b (by rw [← HB.out]; rfl), hb1⟩
  rcases y1 with _ | _
  · go_enter Tryd.func51, Tryd.ntmps51
    go_wp2_with (first | (go_at_call 66; refine H0.out.mono ?_; rintro e w2 ⟨rfl, rfl⟩) | (go_at_call 67; refine H1.out.mono ?_; rintro e w2 ⟨rfl, rfl⟩))
    go_ret
    exact ⟨ret_b (by rw [← HB.out]; rfl), hb1⟩
  · go_enter Tryd.func51, Tryd.ntmps51
    go_wp2_with (first | (go_at_call 66; refine H0.out.mono ?_; rintro e w2 ⟨rfl, rfl⟩) | (go_at_call 67; refine H1.out.mono ?_; rintro e w2 ⟨rfl, rfl⟩) | (go_at_call 88; refine H2.out.mono ?_; rintro e w2 ⟨rfl, hb2⟩))
    go_ret
    exact ⟨ret_b (by rw [← HB.out]; simp), hb1.trans (hb2.mono (by simp))⟩
end Go.Proofs.YtonpemikodajdaaDoor
