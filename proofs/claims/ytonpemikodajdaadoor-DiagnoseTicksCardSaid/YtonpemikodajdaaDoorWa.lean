/- Walks: CheckMonitors, lawful, find; the rows of a watch. -/
import Derived.Test.YtonpemikodajdaaDoorCs
/- Monitors and rows as plain data and in memory; walks: CheckMonitors, lawful. -/
namespace Go.Proofs.YtonpemikodajdaaDoor
open Go.RowKit

structure MMon where
  sig : Int
  low : Int
  high : Int
  up : Int
  down : Int
  limit : Int
  heal : Int
def dMon : MMon := ⟨0, 0, 0, 0, 0, 0, 0⟩
def monCell (l : List MMon) (i j : Nat) : Value :=
  if j = 0 then .int .i64 (l.getD i dMon).sig else if j = 1 then .int .i64 (l.getD i dMon).low else if j = 2 then .int .i64 (l.getD i dMon).high else if j = 3 then .int .i64 (l.getD i dMon).up else if j = 4 then .int .i64 (l.getD i dMon).down else if j = 5 then .int .i64 (l.getD i dMon).limit else .int .i64 (l.getD i dMon).heal
def MonsA (w : World) (B : Nat) (A : Option Addr) (l : List MMon) : Prop := l.length ≤ maxLen ∧ SlA w B 7 A l.length (monCell l)
theorem MonsA.at_ {w : World} {B : Nat} {A : Option Addr} {l : List MMon} (h : MonsA w B A l) {k : Nat} (hk : k < l.length) :
    ∃ f b off, l[k]? = some f ∧ A = some ⟨b, off, none⟩ ∧ b < B ∧ w.cell? ⟨b, off + k * 7, none⟩ = some (.int .i64 f.sig) ∧ w.cell? ⟨b, off + k * 7 + 1, none⟩ = some (.int .i64 f.low) ∧ w.cell? ⟨b, off + k * 7 + 2, none⟩ = some (.int .i64 f.high) ∧
      w.cell? ⟨b, off + k * 7 + 3, none⟩ = some (.int .i64 f.up) ∧ w.cell? ⟨b, off + k * 7 + 4, none⟩ = some (.int .i64 f.down) ∧ w.cell? ⟨b, off + k * 7 + 5, none⟩ = some (.int .i64 f.limit) ∧ w.cell? ⟨b, off + k * 7 + 6, none⟩ = some (.int .i64 f.heal) := by
  obtain ⟨b, off, hA, hlt, hc⟩ := h.2 (by omega)
  have c0 := hc k 0 hk (by omega)
  have c1 := hc k 1 hk (by omega)
  have c2 := hc k 2 hk (by omega)
  have c3 := hc k 3 hk (by omega)
  have c4 := hc k 4 hk (by omega)
  have c5 := hc k 5 hk (by omega)
  have c6 := hc k 6 hk (by omega)
  exact ⟨l[k], b, off, List.getElem?_eq_getElem hk, hA, hlt, by simpa [monCell, hk] using c0, by simpa [monCell, hk] using c1, by simpa [monCell, hk] using c2, by simpa [monCell, hk] using c3, by simpa [monCell, hk] using c4, by simpa [monCell, hk] using c5, by simpa [monCell, hk] using c6⟩
theorem MonsA.below {w w' : World} {B B' : Nat} {A : Option Addr} {l : List MMon} (h : MonsA w B A l) (hb : Below B' w w') (hB : B ≤ B') : MonsA w' B' A l := ⟨h.1, h.2.below hb hB⟩
theorem MonsA.more {w : World} {B B' : Nat} {A : Option Addr} {l : List MMon} (h : MonsA w B A l) (hB : B ≤ B') : MonsA w B' A l := ⟨h.1, h.2.more hB⟩
theorem MonsA.keep {w w' : World} {B : Nat} {A : Option Addr} {l : List MMon} (h : MonsA w B A l) (hb : Below B w w') : MonsA w' B A l := h.below hb (Nat.le_refl _)
def monB (m : MMon) : Bool := inB m.sig 0 19 && (!decide (m.low < -1000000) && (!decide (m.high < m.low) && (!decide (1000000 < m.high) && (inB m.up 1 100 && (inB m.down 1 100 && (inB m.limit 1 1000 && inB m.heal 1 1000))))))
def monsB (l : List MMon) : Bool := decide (l.length ≤ 20) && l.all monB
def checkM (l : List MMon) : Int := if monsB l = true then 0 else 100
theorem monsB_many {l : List MMon} (h : 20 < l.length) : monsB l = false := by unfold monsB; rw [decide_eq_false (by omega)]; rfl
theorem monsB_no {l : List MMon} {k : Nat} {m : MMon} (hk : l[k]? = some m) (h : monB m = false) : monsB l = false := by unfold monsB; rw [all_no hk h]; simp
theorem monsB_yes {l : List MMon} (h0 : l.length ≤ 20) (h : ∀ (j : Nat) (m : MMon), j < l.length → l[j]? = some m → monB m = true) : monsB l = true := by unfold monsB; rw [all_yes h, decide_eq_true h0]; rfl
set_option maxRecDepth 100000 in
set_option maxHeartbeats 2000000 in
theorem mcheck_any (A : Option Addr) (cap : Nat) (l : List MMon) (w : World) (h : MonsA w w.heap.size A l) {r : Int} (hr : checkM l = r) :
    Calls Tryd.prog 32 #[.slice A l.length cap] w fun e w' => e = .returned (.int .i64 r) ∧ Below w.heap.size w w' := by
  have hlen := h.1
  unfold maxLen at hlen
  have HR := Lib.hid hr
  clear hr
  by_cases hm : 20 < l.length
  · go_enter Tryd.func32, Tryd.ntmps32
    go_wp2_with fail
    go_ret
    exact ⟨ret_i (by rw [← HR.out]; unfold checkM; rw [monsB_many hm]; rfl), Below.refl _ _⟩
  · go_enter Tryd.func32, Tryd.ntmps32
    go_wp2_with fail
    go_loopw [10] (fun vi wr => ∃ k : Nat, k ≤ l.length ∧ vi = .int .i64 k ∧ Hid (∀ (j : Nat) (m : MMon), j < k → l[j]? = some m → monB m = true) ∧ Below w.heap.size w wr) (fun vi _ => l.length - (intOf vi).toNat)
    case atStart => exact ⟨0, Nat.zero_le _, rfl, fun j t hj => by omega, Below.refl _ _⟩
    case round =>
      obtain ⟨k, hk, rfl, HI, hbw⟩ := hrel
      by_cases hlt : k < l.length
      · obtain ⟨m, b, off, ht, rfl, hblt, t0, t1, t2, t3, t4, t5, t6⟩ := (h.keep hbw).at_ hlt
        have HT := Lib.hid ht
        have hb1 : Below w.heap.size w (wr.alloc (.cells #[.int .i64 m.sig, .int .i64 m.low, .int .i64 m.high, .int .i64 m.up, .int .i64 m.down, .int .i64 m.limit, .int .i64 m.heal] 44)) := hbw.alloc hbw.size _
        obtain ⟨y0, hy0⟩ : ∃ y, inB m.sig 0 19 = y := ⟨_, rfl⟩
        obtain ⟨y1, hy1⟩ : ∃ y, decide (m.low < -1000000) = y := ⟨_, rfl⟩
        obtain ⟨y2, hy2⟩ : ∃ y, decide (m.high < m.low) = y := ⟨_, rfl⟩
        obtain ⟨y3, hy3⟩ : ∃ y, decide (1000000 < m.high) = y := ⟨_, rfl⟩
        obtain ⟨y4, hy4⟩ : ∃ y, inB m.up 1 100 = y := ⟨_, rfl⟩
        obtain ⟨y5, hy5⟩ : ∃ y, inB m.down 1 100 = y := ⟨_, rfl⟩
        obtain ⟨y6, hy6⟩ : ∃ y, inB m.limit 1 1000 = y := ⟨_, rfl⟩
        obtain ⟨y7, hy7⟩ : ∃ y, inB m.heal 1 1000 = y := ⟨_, rfl⟩
        have HMB : Hid (monB m = (y0 && (!y1 && (!y2 && (!y3 && (y4 && (y5 && (y6 && y7)))))))) := by show _ = _; unfold monB; rw [hy0, hy1, hy2, hy3, hy4, hy5, hy6, hy7]
        have Y0 := Lib.hid hy0
        have Y4 := Lib.hid hy4
        have Y5 := Lib.hid hy5
        have Y6 := Lib.hid hy6
        have Y7 := Lib.hid hy7
        clear hy0 hy4 hy5 hy6 hy7 ht
        have hfail : monB m = false → checkM l = 100 := fun hf => by unfold checkM; rw [monsB_no HT.out hf]; rfl
        have HFA := Lib.hid hfail
        clear hfail
        rcases y0 with _ | _
        · go_wp2_with (go_at_call 66; refine (within_b _ _ _ _ _ Y0.out).mono ?_; rintro e w' ⟨rfl, rfl⟩)
          go_ret
          exact ⟨ret_i (by rw [← HR.out, HFA.out (by rw [HMB.out]; rfl)]), hb1⟩
        rcases y1 with _ | _
        rotate_left
        · go_wp2_with (go_at_call 66; refine (within_b _ _ _ _ _ Y0.out).mono ?_; rintro e w' ⟨rfl, rfl⟩)
          go_ret
          exact ⟨ret_i (by rw [← HR.out, HFA.out (by rw [HMB.out]; rfl)]), hb1⟩
        rcases y2 with _ | _
        rotate_left
        · go_wp2_with (go_at_call 66; refine (within_b _ _ _ _ _ Y0.out).mono ?_; rintro e w' ⟨rfl, rfl⟩)
          go_ret
          exact ⟨ret_i (by rw [← HR.out, HFA.out (by rw [HMB.out]; rfl)]), hb1⟩
        rcases y3 with _ | _
        rotate_left
        · go_wp2_with (go_at_call 66; refine (within_b _ _ _ _ _ Y0.out).mono ?_; rintro e w' ⟨rfl, rfl⟩)
          go_ret
          exact ⟨ret_i (by rw [← HR.out, HFA.out (by rw [HMB.out]; rfl)]), hb1⟩
        rcases y4 with _ | _
        · go_wp2_with (first | (go_at_call 66; (with_reducible refine (within_b m.sig _ _ _ _ Y0.out).mono ?_); rintro e w' ⟨rfl, rfl⟩) | (go_at_call 66; (with_reducible refine (within_b m.up _ _ _ _ Y4.out).mono ?_); rintro e w' ⟨rfl, rfl⟩))
          go_ret
          exact ⟨ret_i (by rw [← HR.out, HFA.out (by rw [HMB.out]; rfl)]), hb1⟩
        rcases y5 with _ | _
        · go_wp2_with (first | (go_at_call 66; (with_reducible refine (within_b m.sig _ _ _ _ Y0.out).mono ?_); rintro e w' ⟨rfl, rfl⟩) | (go_at_call 66; (with_reducible refine (within_b m.up _ _ _ _ Y4.out).mono ?_); rintro e w' ⟨rfl, rfl⟩) | (go_at_call 66; (with_reducible refine (within_b m.down _ _ _ _ Y5.out).mono ?_); rintro e w' ⟨rfl, rfl⟩))
          go_ret
          exact ⟨ret_i (by rw [← HR.out, HFA.out (by rw [HMB.out]; rfl)]), hb1⟩
        rcases y6 with _ | _
        · go_wp2_with (first | (go_at_call 66; (with_reducible refine (within_b m.sig _ _ _ _ Y0.out).mono ?_); rintro e w' ⟨rfl, rfl⟩) | (go_at_call 66; (with_reducible refine (within_b m.up _ _ _ _ Y4.out).mono ?_); rintro e w' ⟨rfl, rfl⟩) | (go_at_call 66; (with_reducible refine (within_b m.down _ _ _ _ Y5.out).mono ?_); rintro e w' ⟨rfl, rfl⟩) | (go_at_call 66; (with_reducible refine (within_b m.limit _ _ _ _ Y6.out).mono ?_); rintro e w' ⟨rfl, rfl⟩))
          go_ret
          exact ⟨ret_i (by rw [← HR.out, HFA.out (by rw [HMB.out]; rfl)]), hb1⟩
        rcases y7 with _ | _
        all_goals
          go_wp2_with (first | (go_at_call 66; (with_reducible refine (within_b m.sig _ _ _ _ Y0.out).mono ?_); rintro e w' ⟨rfl, rfl⟩) | (go_at_call 66; (with_reducible refine (within_b m.up _ _ _ _ Y4.out).mono ?_); rintro e w' ⟨rfl, rfl⟩) | (go_at_call 66; (with_reducible refine (within_b m.down _ _ _ _ Y5.out).mono ?_); rintro e w' ⟨rfl, rfl⟩) | (go_at_call 66; (with_reducible refine (within_b m.limit _ _ _ _ Y6.out).mono ?_); rintro e w' ⟨rfl, rfl⟩) | (go_at_call 66; (with_reducible refine (within_b m.heal _ _ _ _ Y7.out).mono ?_); rintro e w' ⟨rfl, rfl⟩))
        · go_ret
          exact ⟨ret_i (by rw [← HR.out, HFA.out (by rw [HMB.out]; rfl)]), hb1⟩
        · go_roundw
          case rel => exact ⟨k + 1, by omega, by go_num, upto_snoc HI.out HT.out (by rw [HMB.out]; rfl), hb1⟩
          case measure => simp [intOf]; omega
      · obtain rfl : k = l.length := by omega
        go_wp2_with fail
        go_ret
        exact ⟨ret_i (by rw [← HR.out]; unfold checkM; rw [monsB_yes (by omega) HI.out]; rfl), hbw⟩
end Go.Proofs.YtonpemikodajdaaDoor

/- Walks: lawful and what it calls; the rows of a watch. -/
namespace Go.Proofs.YtonpemikodajdaaDoor
open Go.RowKit

def sigB (n : Int) (m : MMon) : Bool := decide (m.sig < n)
def lawB (l : List MMon) (row : List Int) : Bool := inB row.length 1 20 && (row.all bMil && l.all (sigB row.length))
def monV (m : MMon) : Value := .agg #[.int .i64 m.sig, .int .i64 m.low, .int .i64 m.high, .int .i64 m.up, .int .i64 m.down, .int .i64 m.limit, .int .i64 m.heal]
theorem clo89 (m : MMon) (tb : Nat) (A : Option Addr) (n cap : Nat) (w : World) (htb : w.cell? ⟨tb, 0, none⟩ = some (.slice A n cap)) (hlt : tb < w.heap.size) {r : Bool} (hr : sigB n m = r) :
    Calls Tryd.prog 89 #[.agg #[.int .i64 m.sig, .int .i64 m.low, .int .i64 m.high, .int .i64 m.up, .int .i64 m.down, .int .i64 m.limit, .int .i64 m.heal], .pointer (some ⟨tb, 0, none⟩)] w fun e w' => e = .returned (.bool !r) ∧ Below w.heap.size w w' := by
  have hc : (w.alloc (.cells #[.int .i64 m.sig, .int .i64 m.low, .int .i64 m.high, .int .i64 m.up, .int .i64 m.down, .int .i64 m.limit, .int .i64 m.heal] 44)).cell? ⟨tb, 0, none⟩ = some (.slice A n cap) := (acell w _ _ _ hlt).trans htb
  have hn0 := newcell w #[.int .i64 m.sig, .int .i64 m.low, .int .i64 m.high, .int .i64 m.up, .int .i64 m.down, .int .i64 m.limit, .int .i64 m.heal] 44 0
  have hb : Below w.heap.size w (w.alloc (.cells #[.int .i64 m.sig, .int .i64 m.low, .int .i64 m.high, .int .i64 m.up, .int .i64 m.down, .int .i64 m.limit, .int .i64 m.heal] 44)) := (Below.refl _ _).alloc (Nat.le_refl _) _
  have HR := Lib.hid hr
  clear hr
  go_enter Tryd.func89, Tryd.ntmps89
  go_wp2_with fail
  go_ret
  refine ⟨ret_b ?_, hb⟩
  rw [← HR.out]
  unfold sigB
  by_cases h : m.sig < n
  · rw [decide_eq_true h, decide_eq_false (by omega)]; rfl
  · rw [decide_eq_false h, decide_eq_true (by omega)]; rfl
set_option maxHeartbeats 1000000 in
theorem idx89 (A : Option Addr) (cap : Nat) (l : List MMon) (tb : Nat) (A2 : Option Addr) (n cap2 : Nat) (w : World) (h : MonsA w w.heap.size A l) (htb : w.cell? ⟨tb, 0, none⟩ = some (.slice A2 n cap2)) (hltb : tb < w.heap.size) :
    Calls Tryd.prog 113 #[.slice A l.length cap, .func (.func 89) #[] #[.pointer (some ⟨tb, 0, none⟩)]] w fun e w' => (∃ i : Int, e = .returned (.int .i64 i) ∧ IdxB i (l.all (sigB n))) ∧ Below w.heap.size w w' := by
  have hlen := h.1
  unfold maxLen at hlen
  go_enter Tryd.func113, Tryd.ntmps113
  go_wp2_with fail
  go_loopw [8] (fun i wr => ∃ k : Nat, k ≤ l.length ∧ i = .int .i64 k ∧ Hid (∀ (j : Nat) (m : MMon), j < k → l[j]? = some m → sigB n m = true) ∧ Below w.heap.size w wr) (fun i _ => l.length - (intOf i).toNat)
  case atStart => exact ⟨0, Nat.zero_le _, rfl, fun j m hj => by omega, Below.refl _ _⟩
  case round =>
    obtain ⟨k, hk, rfl, HI, hbw⟩ := hrel
    by_cases hlt : k < l.length
    · obtain ⟨m, b, off, ht, rfl, hblt, t0, t1, t2, t3, t4, t5, t6⟩ := (h.keep hbw).at_ hlt
      have HT := Lib.hid ht
      have hc := (bcell hbw tb 0 hltb).trans htb
      rcases hx : sigB n m
      all_goals
        have HX := Lib.hid hx
        have HC := Lib.hid (clo89 m tb A2 n cap2 wr hc (Nat.lt_of_lt_of_le hltb hbw.size) hx)
        clear hx ht
        go_wp2_with (go_at_call 89; refine HC.out.mono ?_; rintro e w2 ⟨rfl, hb2⟩)
      · go_ret
        refine ⟨⟨k, rfl, ⟨fun _ => ?_, fun _ => by omega⟩⟩, hbw.trans (hb2.mono hbw.size)⟩
        exact all_no HT.out HX.out
      · go_roundw
        case rel => exact ⟨k + 1, by omega, by go_num, upto_snoc HI.out HT.out HX.out, hbw.trans (hb2.mono hbw.size)⟩
        case measure => simp [intOf]; omega
    · obtain rfl : k = l.length := by omega
      go_wp2_with fail
      go_ret
      refine ⟨⟨-1, rfl, ⟨fun h => by omega, fun h => ?_⟩⟩, hbw⟩
      rw [all_yes HI.out] at h
      cases h
theorem con89 (A : Option Addr) (cap : Nat) (l : List MMon) (tb : Nat) (A2 : Option Addr) (n cap2 : Nat) (w : World) (h : MonsA w w.heap.size A l) (htb : w.cell? ⟨tb, 0, none⟩ = some (.slice A2 n cap2)) (hltb : tb < w.heap.size) {b : Bool} (he : l.all (sigB n) = b) :
    Calls Tryd.prog 88 #[.slice A l.length cap, .func (.func 89) #[] #[.pointer (some ⟨tb, 0, none⟩)]] w fun e w' => e = .returned (.bool !b) ∧ Below w.heap.size w w' := by
  have HC := Lib.hid (idx89 A cap l tb A2 n cap2 w h htb hltb)
  have HE := Lib.hid he
  clear he
  go_enter Tryd.func88, Tryd.ntmps88
  go_wp2_with (go_at_call 113; refine HC.out.mono ?_; rintro e w2 ⟨⟨i, rfl, hi⟩, hb2⟩; have HI := Lib.hid hi; clear hi)
  go_ret
  refine ⟨ret_b ?_, hb2⟩
  rcases b with _ | _
  · exact decide_eq_true (HI.out.2 HE.out)
  · exact decide_eq_false fun h => by have := HI.out.1 h; rw [HE.out] at this; cases this
set_option maxHeartbeats 1000000 in
theorem lawful_any (A : Option Addr) (cap : Nat) (l : List MMon) (R : Option Addr) (rc : Nat) (row : List Int) (w : World) (h : MonsA w w.heap.size A l) (hr : IntsA w w.heap.size R row) {b : Bool} (hb : lawB l row = b) :
    Calls Tryd.prog 51 #[.slice A l.length cap, .slice R row.length rc] w fun e w' => e = .returned (.bool b) ∧ Below w.heap.size w w' := by
  have hb1 : Below w.heap.size w (w.alloc (.cells #[.slice R row.length rc] 24)) := (Below.refl _ _).alloc (Nat.le_refl _) _
  have hn0 := newcell w #[.slice R row.length rc] 24 0
  have hlt : w.heap.size < (w.alloc (.cells #[.slice R row.length rc] 24)).heap.size := by simp
  obtain ⟨y0, hy0⟩ : ∃ y, inB row.length 1 20 = y := ⟨_, rfl⟩
  obtain ⟨y1, hy1⟩ : ∃ y, row.all bMil = y := ⟨_, rfl⟩
  obtain ⟨y2, hy2⟩ : ∃ y, l.all (sigB row.length) = y := ⟨_, rfl⟩
  have hlb : lawB l row = (y0 && (y1 && y2)) := by unfold lawB; rw [hy0, hy1, hy2]
  rw [hlb] at hb
  have HB := Lib.hid hb
  have H0 := Lib.hid (within_b (row.length : Int) 1 20 y0 (w.alloc (.cells #[.slice R row.length rc] 24)) hy0)
  have H1 := Lib.hid (con87 R rc row (w.alloc (.cells #[.slice R row.length rc] 24)) w.heap.size (hr.keep hb1) hy1)
  have H2 := Lib.hid (con89 A cap l w.heap.size R row.length rc (w.alloc (.cells #[.slice R row.length rc] 24)) ((h.keep hb1).more (by simp)) hn0 hlt hy2)
  clear hb hlb hy0 hy1 hy2
  have hlen := hr.1
  unfold maxLen at hlen
  rcases y0 with _ | _
  · go_enter Tryd.func51, Tryd.ntmps51
    go_wp2_with (go_at_call 66; refine H0.out.mono ?_; rintro e w2 ⟨rfl, rfl⟩)
    go_ret
    exact ⟨ret_b (by rw [← HB.out]; rfl), hb1⟩
  rcases y1 with _ | _
  · go_enter Tryd.func51, Tryd.ntmps51
    go_wp2_with (first | (go_at_call 66; refine H0.out.mono ?_; rintro e w2 ⟨rfl, rfl⟩) | (go_at_call 67; refine H1.out.mono ?_; rintro e w2 ⟨rfl, rfl⟩))
    go_ret
    exact ⟨ret_b (by rw [← HB.out]; rfl), hb1⟩
  · go_enter Tryd.func51, Tryd.ntmps51
    go_wp2_with (first | (go_at_call 66; refine H0.out.mono ?_; rintro e w2 ⟨rfl, rfl⟩) | (go_at_call 67; refine H1.out.mono ?_; rintro e w2 ⟨rfl, rfl⟩) | (go_at_call 88; refine H2.out.mono ?_; rintro e w2 ⟨rfl, hb2⟩))
    go_ret
    exact ⟨ret_b (by rw [← HB.out]; simp), hb1.trans (hb2.mono (by simp))⟩
end Go.Proofs.YtonpemikodajdaaDoor

/- Codes as plain data and in memory; walk: find (a binary search). -/
namespace Go.Proofs.YtonpemikodajdaaDoor
open Go.RowKit

structure MCode where
  mon : Int
  first : Int
  last : Int
  count : Int
  frame : List Int
  active : Bool
def dCode : MCode := ⟨0, 0, 0, 0, [], false⟩
def codeCell (l : List MCode) (pv : Nat → Option Addr × Nat) (i j : Nat) : Value :=
  if j = 0 then .int .i64 (l.getD i dCode).mon else if j = 1 then .int .i64 (l.getD i dCode).first else if j = 2 then .int .i64 (l.getD i dCode).last else if j = 3 then .int .i64 (l.getD i dCode).count else if j = 4 then .slice (pv i).1 (l.getD i dCode).frame.length (pv i).2 else .bool (l.getD i dCode).active
def CodesA (w : World) (B : Nat) (A : Option Addr) (l : List MCode) : Prop :=
  l.length ≤ 1000000 ∧ ∃ pv : Nat → Option Addr × Nat, SlA w B 6 A l.length (codeCell l pv) ∧ ∀ i, i < l.length → (l.getD i dCode).frame.length ≤ (pv i).2 ∧ IntsA w B (pv i).1 (l.getD i dCode).frame
theorem CodesA.at_ {w : World} {B : Nat} {A : Option Addr} {l : List MCode} (h : CodesA w B A l) {k : Nat} (hk : k < l.length) :
    ∃ f b off Ap cp, l.getD k dCode = f ∧ A = some ⟨b, off, none⟩ ∧ b < B ∧ w.cell? ⟨b, off + k * 6, none⟩ = some (.int .i64 f.mon) ∧ w.cell? ⟨b, off + k * 6 + 1, none⟩ = some (.int .i64 f.first) ∧ w.cell? ⟨b, off + k * 6 + 2, none⟩ = some (.int .i64 f.last) ∧
      w.cell? ⟨b, off + k * 6 + 3, none⟩ = some (.int .i64 f.count) ∧ w.cell? ⟨b, off + k * 6 + 4, none⟩ = some (.slice Ap f.frame.length cp) ∧ w.cell? ⟨b, off + k * 6 + 5, none⟩ = some (.bool f.active) ∧ f.frame.length ≤ cp ∧ IntsA w B Ap f.frame := by
  obtain ⟨_, pv, h, hp⟩ := h
  obtain ⟨b, off, hA, hlt, hc⟩ := h (by omega)
  have c0 := hc k 0 hk (by omega)
  have c1 := hc k 1 hk (by omega)
  have c2 := hc k 2 hk (by omega)
  have c3 := hc k 3 hk (by omega)
  have c4 := hc k 4 hk (by omega)
  have c5 := hc k 5 hk (by omega)
  have hp' := hp k hk
  exact ⟨_, b, off, (pv k).1, (pv k).2, rfl, hA, hlt, by simpa [codeCell] using c0, by simpa [codeCell] using c1, by simpa [codeCell] using c2, by simpa [codeCell] using c3, by simpa [codeCell] using c4, by simpa [codeCell] using c5, hp'.1, hp'.2⟩
theorem CodesA.below {w w' : World} {B B' : Nat} {A : Option Addr} {l : List MCode} (h : CodesA w B A l) (hb : Below B' w w') (hB : B ≤ B') : CodesA w' B' A l := by
  obtain ⟨hl, pv, h, hp⟩ := h
  exact ⟨hl, pv, h.below hb hB, fun i hi => ⟨(hp i hi).1, (hp i hi).2.below hb hB⟩⟩
theorem CodesA.more {w : World} {B B' : Nat} {A : Option Addr} {l : List MCode} (h : CodesA w B A l) (hB : B ≤ B') : CodesA w B' A l := by
  obtain ⟨hl, pv, h, hp⟩ := h
  exact ⟨hl, pv, h.more hB, fun i hi => ⟨(hp i hi).1, (hp i hi).2.more hB⟩⟩
theorem CodesA.keep {w w' : World} {B : Nat} {A : Option Addr} {l : List MCode} (h : CodesA w B A l) (hb : Below B w w') : CodesA w' B A l := h.below hb (Nat.le_refl _)

/-- where a code stands, or would stand -/
def FindP (l : List MCode) (t : Int) (i : Nat) (b : Bool) : Prop :=
  i ≤ l.length ∧ (∀ k, k < i → (l.getD k dCode).mon < t) ∧ (∀ k, i ≤ k → k < l.length → t ≤ (l.getD k dCode).mon) ∧ (b = true ↔ i < l.length ∧ (l.getD i dCode).mon = t)
/-- in ascending order of their monitors, which are small -/
def AscC (l : List MCode) : Prop := (∀ i j, i < j → j < l.length → (l.getD i dCode).mon < (l.getD j dCode).mon) ∧ ∀ i, i < l.length → 0 ≤ (l.getD i dCode).mon ∧ (l.getD i dCode).mon ≤ 1000000
theorem clo120 (m f l c t : Int) (v : Value) (a : Bool) (w : World) (hm : 0 ≤ m ∧ m ≤ 1000000) (ht : 0 ≤ t ∧ t ≤ 1000000) :
    Calls Tryd.prog 120 #[.agg #[.int .i64 m, .int .i64 f, .int .i64 l, .int .i64 c, v, .bool a], .int .i64 t] w fun e w' => e = .returned (.int .i64 (m - t)) ∧ Below w.heap.size w w' := by
  have hn0 := newcell w #[.int .i64 m, .int .i64 f, .int .i64 l, .int .i64 c, v, .bool a] 46 0
  have hb : Below w.heap.size w (w.alloc (.cells #[.int .i64 m, .int .i64 f, .int .i64 l, .int .i64 c, v, .bool a] 46)) := (Below.refl _ _).alloc (Nat.le_refl _) _
  go_enter Tryd.func120, Tryd.ntmps120
  go_wp2_with fail
  go_ret
  exact ⟨ret_i (by rfl), hb⟩
set_option maxRecDepth 100000 in
set_option maxHeartbeats 4000000 in
theorem search_any (A : Option Addr) (cap : Nat) (l : List MCode) (t : Int) (w : World) (h : CodesA w w.heap.size A l) (hs : AscC l) (ht : 0 ≤ t ∧ t ≤ 1000000) :
    Calls Tryd.prog 119 #[.slice A l.length cap, .int .i64 t, .func (.func 120) #[] #[]] w fun e w' => (∃ (i : Nat) (b : Bool), e = .returned (.tuple #[.int .i64 i, .bool b]) ∧ FindP l t i b) ∧ Below w.heap.size w w' := by
  have hlen := h.1
  go_enter Tryd.func119, Tryd.ntmps119
  go_wp2_with fail
  go_loopw [9, 10] (fun vi vj wr => ∃ i j : Nat, i ≤ j ∧ j ≤ l.length ∧ vi = .int .i64 i ∧ vj = .int .i64 j ∧ Hid (∀ k, k < i → (l.getD k dCode).mon < t) ∧ Hid (∀ k, j ≤ k → k < l.length → t ≤ (l.getD k dCode).mon) ∧ Below w.heap.size w wr) (fun vi vj _ => (intOf vj - intOf vi).toNat)
  case atStart => exact ⟨0, l.length, by omega, Nat.le_refl _, rfl, rfl, fun k hk => by omega, fun k h1 h2 => by omega, Below.refl _ _⟩
  case round =>
    obtain ⟨i, j, hij, hj, rfl, rfl, HI, HJ, hbw⟩ := hrel
    by_cases hlt : i < j
    · have hqi : i ≤ (i + j) / 2 := by omega
      have hqj : (i + j) / 2 < j := by omega
      have hql : (i + j) / 2 < l.length := by omega
      obtain ⟨f, b, off, Ap, cp, hf, rfl, hblt, c0, c1, c2, c3, c4, c5, hcp, hfr⟩ := (h.keep hbw).at_ hql
      have HF := Lib.hid hf
      have hfm := hs.2 _ hql
      rw [hf] at hfm
      have HC := Lib.hid (clo120 f.mon f.first f.last f.count t (.slice Ap f.frame.length cp) f.active wr hfm ht)
      clear hf
      by_cases hd : f.mon < t
      · have HD := Lib.hid hd
        go_wp2_with (go_at_call 120; refine HC.out.mono ?_; rintro e w2 ⟨rfl, hb2⟩)
        go_roundw
        case rel =>
          refine ⟨(i + j) / 2 + 1, j, by omega, hj, by go_num, rfl, fun k hk => ?_, HJ.out, hbw.trans (hb2.mono hbw.size)⟩
          rcases Nat.lt_or_ge k ((i + j) / 2) with h1 | h1
          · have := hs.1 k _ h1 hql
            rw [HF.out] at this
            omega
          · obtain rfl : k = (i + j) / 2 := by omega
            rw [HF.out]
            exact HD.out
        case measure => simp [intOf]; omega
      · have HD := Lib.hid hd
        go_wp2_with (go_at_call 120; refine HC.out.mono ?_; rintro e w2 ⟨rfl, hb2⟩)
        go_roundw
        case rel =>
          refine ⟨i, (i + j) / 2, by omega, by omega, rfl, by go_num, HI.out, fun k h1 h2 => ?_, hbw.trans (hb2.mono hbw.size)⟩
          rcases Nat.lt_or_ge ((i + j) / 2) k with h3 | h3
          · have := hs.1 _ k h3 h2
            rw [HF.out] at this
            have := HD.out
            omega
          · obtain rfl : k = (i + j) / 2 := by omega
            rw [HF.out]
            have := HD.out
            omega
        case measure => simp [intOf]; omega
    · obtain rfl : i = j := by omega
      by_cases hil : i < l.length
      · obtain ⟨f, b, off, Ap, cp, hf, rfl, hblt, c0, c1, c2, c3, c4, c5, hcp, hfr⟩ := (h.keep hbw).at_ hil
        have HF := Lib.hid hf
        have hfm := hs.2 _ hil
        rw [hf] at hfm
        have HC := Lib.hid (clo120 f.mon f.first f.last f.count t (.slice Ap f.frame.length cp) f.active wr hfm ht)
        clear hf
        by_cases hd : f.mon = t
        · have HD := Lib.hid hd
          have hd0 : f.mon - t = 0 := by omega
          clear hd
          go_wp2_with (go_at_call 120; refine HC.out.mono ?_; rintro e w2 ⟨rfl, hb2⟩)
          go_ret2
          refine ⟨⟨i, _, rfl, hj, HI.out, HJ.out, ?_⟩, hbw.trans (hb2.mono hbw.size)⟩
          rw [HF.out]
          simp [hil]
          omega
        · have HD := Lib.hid hd
          have hd0 : f.mon - t ≠ 0 := by omega
          clear hd
          go_wp2_with (go_at_call 120; refine HC.out.mono ?_; rintro e w2 ⟨rfl, hb2⟩)
          go_ret2
          refine ⟨⟨i, _, rfl, hj, HI.out, HJ.out, ?_⟩, hbw.trans (hb2.mono hbw.size)⟩
          rw [HF.out]
          simp [hil]
          omega
      · obtain rfl : i = l.length := by omega
        go_wp2_with fail
        go_ret2
        exact ⟨⟨_, false, rfl, hj, HI.out, HJ.out, by simp⟩, hbw⟩
theorem find_any (A : Option Addr) (cap : Nat) (l : List MCode) (t : Int) (w : World) (h : CodesA w w.heap.size A l) (hs : AscC l) (ht : 0 ≤ t ∧ t ≤ 1000000) :
    Calls Tryd.prog 106 #[.slice A l.length cap, .int .i64 t] w fun e w' => (∃ (i : Nat) (b : Bool), e = .returned (.tuple #[.int .i64 i, .bool b]) ∧ FindP l t i b) ∧ Below w.heap.size w w' := by
  have HC := Lib.hid (search_any A cap l t w h hs ht)
  go_enter Tryd.func106, Tryd.ntmps106
  go_wp2_with (go_at_call 119; refine HC.out.mono ?_; rintro e w2 ⟨⟨i, b, rfl, hi⟩, hb2⟩; have HI := Lib.hid hi; clear hi)
  go_ret2
  exact ⟨⟨i, b, rfl, HI.out⟩, hb2⟩
end Go.Proofs.YtonpemikodajdaaDoor

/- The rows of a watch in memory; walks: all rows are lawful. -/
namespace Go.Proofs.YtonpemikodajdaaDoor
open Go.RowKit

def RowsA (w : World) (B : Nat) (A : Option Addr) (rs : List (List Int)) : Prop :=
  rs.length ≤ maxLen ∧ ∃ pv : Nat → Option Addr × Nat, SlA w B 1 A rs.length (fun i _ => .slice (pv i).1 (rs.getD i []).length (pv i).2) ∧ ∀ i, i < rs.length → (rs.getD i []).length ≤ (pv i).2 ∧ IntsA w B (pv i).1 (rs.getD i [])
theorem RowsA.at_ {w : World} {B : Nat} {A : Option Addr} {rs : List (List Int)} (h : RowsA w B A rs) {k : Nat} (hk : k < rs.length) :
    ∃ row b off Ap cp, rs[k]? = some row ∧ A = some ⟨b, off, none⟩ ∧ b < B ∧ w.cell? ⟨b, off + k, none⟩ = some (.slice Ap row.length cp) ∧ row.length ≤ cp ∧ IntsA w B Ap row := by
  obtain ⟨_, pv, h, hp⟩ := h
  obtain ⟨b, off, hA, hlt, hc⟩ := h (by omega)
  have c0 := hc k 0 hk (by omega)
  have hp' := hp k hk
  have e : rs.getD k [] = rs[k] := by rw [List.getD_eq_getElem?_getD, List.getElem?_eq_getElem hk]; rfl
  rw [e] at hp'
  simp only [e] at c0
  exact ⟨rs[k], b, off, (pv k).1, (pv k).2, List.getElem?_eq_getElem hk, hA, hlt, by simpa using c0, hp'.1, hp'.2⟩
theorem RowsA.below {w w' : World} {B B' : Nat} {A : Option Addr} {rs : List (List Int)} (h : RowsA w B A rs) (hb : Below B' w w') (hB : B ≤ B') : RowsA w' B' A rs := by
  obtain ⟨hl, pv, h, hp⟩ := h
  exact ⟨hl, pv, h.below hb hB, fun i hi => ⟨(hp i hi).1, (hp i hi).2.below hb hB⟩⟩
theorem RowsA.keep {w w' : World} {B : Nat} {A : Option Addr} {rs : List (List Int)} (h : RowsA w B A rs) (hb : Below B w w') : RowsA w' B A rs := h.below hb (Nat.le_refl _)
theorem RowsA.more {w : World} {B B' : Nat} {A : Option Addr} {rs : List (List Int)} (h : RowsA w B A rs) (hB : B ≤ B') : RowsA w B' A rs := by
  obtain ⟨hl, pv, h, hp⟩ := h
  exact ⟨hl, pv, h.more hB, fun i hi => ⟨(hp i hi).1, (hp i hi).2.more hB⟩⟩
theorem clo50 (tb : Nat) (A : Option Addr) (lc : Nat) (l : List MMon) (R : Option Addr) (rc : Nat) (row : List Int) (w : World) (h : MonsA w w.heap.size A l) (htb : w.cell? ⟨tb, 0, none⟩ = some (.slice A l.length lc)) (hr : IntsA w w.heap.size R row) {b : Bool} (hb : lawB l row = b) :
    Calls Tryd.prog 50 #[.slice R row.length rc, .pointer (some ⟨tb, 0, none⟩)] w fun e w' => e = .returned (.bool !b) ∧ Below w.heap.size w w' := by
  have HC := Lib.hid (lawful_any A lc l R rc row w h hr hb)
  clear hb
  go_enter Tryd.func50, Tryd.ntmps50
  go_wp2_with (go_at_call 51; refine HC.out.mono ?_; rintro e w2 ⟨rfl, hb2⟩)
  go_ret
  exact ⟨rfl, hb2⟩
set_option maxHeartbeats 1000000 in
theorem idx86 (A : Option Addr) (cap : Nat) (rs : List (List Int)) (tb : Nat) (A2 : Option Addr) (lc : Nat) (l : List MMon) (w : World) (h : RowsA w w.heap.size A rs) (hm : MonsA w w.heap.size A2 l) (htb : w.cell? ⟨tb, 0, none⟩ = some (.slice A2 l.length lc)) (hltb : tb < w.heap.size) :
    Calls Tryd.prog 86 #[.slice A rs.length cap, .func (.func 50) #[] #[.pointer (some ⟨tb, 0, none⟩)]] w fun e w' => (∃ i : Int, e = .returned (.int .i64 i) ∧ IdxB i (rs.all (lawB l))) ∧ Below w.heap.size w w' := by
  have hlen := h.1
  unfold maxLen at hlen
  go_enter Tryd.func86, Tryd.ntmps86
  go_wp2_with fail
  go_loopw [8] (fun i wr => ∃ k : Nat, k ≤ rs.length ∧ i = .int .i64 k ∧ Hid (∀ (j : Nat) (m : List Int), j < k → rs[j]? = some m → lawB l m = true) ∧ Below w.heap.size w wr) (fun i _ => rs.length - (intOf i).toNat)
  case atStart => exact ⟨0, Nat.zero_le _, rfl, fun j m hj => by omega, Below.refl _ _⟩
  case round =>
    obtain ⟨k, hk, rfl, HI, hbw⟩ := hrel
    by_cases hlt : k < rs.length
    · obtain ⟨row, b, off, Ap, cp, ht, rfl, hblt, t0, hcp, hri⟩ := (h.keep hbw).at_ hlt
      have HT := Lib.hid ht
      have hc := (bcell hbw tb 0 hltb).trans htb
      rcases hx : lawB l row
      all_goals
        have HX := Lib.hid hx
        have HC := Lib.hid (clo50 tb A2 lc l Ap cp row wr ((hm.keep hbw).more hbw.size) hc (hri.more hbw.size) hx)
        clear hx ht
        go_wp2_with (go_at_call 50; refine HC.out.mono ?_; rintro e w2 ⟨rfl, hb2⟩)
      · go_ret
        refine ⟨⟨k, rfl, ⟨fun _ => ?_, fun _ => by omega⟩⟩, hbw.trans (hb2.mono hbw.size)⟩
        exact all_no HT.out HX.out
      · go_roundw
        case rel => exact ⟨k + 1, by omega, by go_num, upto_snoc HI.out HT.out HX.out, hbw.trans (hb2.mono hbw.size)⟩
        case measure => simp [intOf]; omega
    · obtain rfl : k = rs.length := by omega
      go_wp2_with fail
      go_ret
      refine ⟨⟨-1, rfl, ⟨fun h => by omega, fun h => ?_⟩⟩, hbw⟩
      rw [all_yes HI.out] at h
      cases h
theorem con49 (A : Option Addr) (cap : Nat) (rs : List (List Int)) (tb : Nat) (A2 : Option Addr) (lc : Nat) (l : List MMon) (w : World) (h : RowsA w w.heap.size A rs) (hm : MonsA w w.heap.size A2 l) (htb : w.cell? ⟨tb, 0, none⟩ = some (.slice A2 l.length lc)) (hltb : tb < w.heap.size) {b : Bool} (he : rs.all (lawB l) = b) :
    Calls Tryd.prog 49 #[.slice A rs.length cap, .func (.func 50) #[] #[.pointer (some ⟨tb, 0, none⟩)]] w fun e w' => e = .returned (.bool !b) ∧ Below w.heap.size w w' := by
  have HC := Lib.hid (idx86 A cap rs tb A2 lc l w h hm htb hltb)
  have HE := Lib.hid he
  clear he
  go_enter Tryd.func49, Tryd.ntmps49
  go_wp2_with (go_at_call 86; refine HC.out.mono ?_; rintro e w2 ⟨⟨i, rfl, hi⟩, hb2⟩; have HI := Lib.hid hi; clear hi)
  go_ret
  refine ⟨ret_b ?_, hb2⟩
  rcases b with _ | _
  · exact decide_eq_true (HI.out.2 HE.out)
  · exact decide_eq_false fun h => by have := HI.out.1 h; rw [HE.out] at this; cases this
end Go.Proofs.YtonpemikodajdaaDoor
