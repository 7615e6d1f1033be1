/- Monitors and rows as plain data and in memory; walks: CheckMonitors, lawful. -/
import Derived.Test.YtonpemikodajdaaDoorCs2
namespace Go.Proofs.YtonpemikodajdaaDoor
open Go.RowKit

structure MMon where
  sig : Int
  low : Int
  high : Int
  up : Int
  down : Int
  limit : Int
  heal : Int
def dMon : MMon := ⟨0, 0, 0, 0, 0, 0, 0⟩
def monCell (l : List MMon) (i j : Nat) : Value :=
  if j = 0 then .int .i64 (l.getD i dMon).sig else if j = 1 then .int .i64 (l.getD i dMon).low else if j = 2 then .int .i64 (l.getD i dMon).high else if j = 3 then .int .i64 (l.getD i dMon).up else if j = 4 then .int .i64 (l.getD i dMon).down else if j = 5 then .int .i64 (l.getD i dMon).limit else .int .i64 (l.getD i dMon).heal
def MonsA (w : World) (B : Nat) (A : Option Addr) (l : List MMon) : Prop := l.length ≤ maxLen ∧ SlA w B 7 A l.length (monCell l)
theorem MonsA.at_ {w : World} {B : Nat} {A : Option Addr} {l : List MMon} (h : MonsA w B A l) {k : Nat} (hk : k < l.length) :
    ∃ f b off, l[k]? = some f ∧ A = some ⟨b, off, none⟩ ∧ b < B ∧ w.cell? ⟨b, off + k * 7, none⟩ = some (.int .i64 f.sig) ∧ w.cell? ⟨b, off + k * 7 + 1, none⟩ = some (.int .i64 f.low) ∧ w.cell? ⟨b, off + k * 7 + 2, none⟩ = some (.int .i64 f.high) ∧
      w.cell? ⟨b, off + k * 7 + 3, none⟩ = some (.int .i64 f.up) ∧ w.cell? ⟨b, off + k * 7 + 4, none⟩ = some (.int .i64 f.down) ∧ w.cell? ⟨b, off + k * 7 + 5, none⟩ = some (.int .i64 f.limit) ∧ w.cell? ⟨b, off + k * 7 + 6, none⟩ = some (.int .i64 f.heal) := by
  obtain ⟨b, off, hA, hlt, hc⟩ := h.2 (by omega)
  have c0 := hc k 0 hk (by omega)
  have c1 := hc k 1 hk (by omega)
  have c2 := hc k 2 hk (by omega)
  have c3 := hc k 3 hk (by omega)
  have c4 := hc k 4 hk (by omega)
  have c5 := hc k 5 hk (by omega)
  have c6 := hc k 6 hk (by omega)
  exact ⟨l[k], b, off, List.getElem?_eq_getElem hk, hA, hlt, by simpa [monCell, hk] using c0, by simpa [monCell, hk] using c1, by simpa [monCell, hk] using c2, by simpa [monCell, hk] using c3, by simpa [monCell, hk] using c4, by simpa [monCell, hk] using c5, by simpa [monCell, hk] using c6⟩
theorem MonsA.below {w w' : World} {B B' : Nat} {A : Option Addr} {l : List MMon} (h : MonsA w B A l) (hb : Below B' w w') (hB : B ≤ B') : MonsA w' B' A l := ⟨h.1, h.2.below hb hB⟩
theorem MonsA.more {w : World} {B B' : Nat} {A : Option Addr} {l : List MMon} (h : MonsA w B A l) (hB : B ≤ B') : MonsA w B' A l := ⟨h.1, h.2.more hB⟩
theorem MonsA.keep {w w' : World} {B : Nat} {A : Option Addr} {l : List MMon} (h : MonsA w B A l) (hb : Below B w w') : MonsA w' B A l := h.below hb (Nat.le_refl _)
def monB (m : MMon) : Bool := inB m.sig 0 19 && (!decide (m.low < -1000000) && (!decide (m.high < m.low) && (!decide (1000000 < m.high) && (inB m.up 1 100 && (inB m.down 1 100 && (inB m.limit 1 1000 && inB m.heal 1 1000))))))
def monsB (l : List MMon) : Bool := decide (l.length ≤ 20) && l.all monB
def checkM (l : List MMon) : Int := if monsB l = true then 0 else 100
theorem monsB_many {l : List MMon} (h : 20 < l.length) : monsB l = false := by unfold monsB; rw [decide_eq_false (by omega)]; rfl
theorem monsB_no {l : List MMon} {k : Nat} {m : MMon} (hk : l[k]? = some m) (h : monB m = false) : monsB l = false := by unfold monsB; rw [all_no hk h]; simp
theorem monsB_yes {l : List MMon} (h0 : l.length ≤ 20) (h : ∀ (j : Nat) (m : MMon), j < l.length → l[j]? = some m → monB m = true) : monsB l = true := by unfold monsB; rw [all_yes h, decide_eq_true h0]; rfl
set_option maxRecDepth 100000 in
set_option maxHeartbeats 2000000 in
theorem mcheck_any (A : Option Addr) (cap : Nat) (l : List MMon) (w : World) (h : MonsA w w.heap.size A l) {r : Int} (hr : checkM l = r) :
    Calls Tryd.prog 32 #[.slice A l.length cap] w fun e w' => e = .returned (.int .i64 r) ∧ Below w.heap.size w w' := by
  have hlen := h.1
  unfold maxLen at hlen
  have HR := Lib.hid hr
  clear hr
  by_cases hm : 20 < l.length
  · go_enter Tryd.func32, Tryd.ntmps32
    go_wp2_with fail
    go_ret
    exact ⟨ret_i (by rw [← HR.out]; unfold checkM; rw [monsB_many hm]; rfl), Below.refl _ _⟩
  · go_enter Tryd.func32, Tryd.ntmps32
    go_wp2_with fail
    go_loopw [10] (fun vi wr => ∃ k : Nat, k ≤ l.length ∧ vi = .int .i64 k ∧ Hid (∀ (j : Nat) (m : MMon), j < k → l[j]? = some m → monB m = true) ∧ Below w.heap.size w wr) (fun vi _ => l.length - (intOf vi).toNat)
    case atStart => exact ⟨0, Nat.zero_le _, rfl, fun j t hj => by omega, Below.refl _ _⟩
    case round =>
      obtain ⟨k, hk, rfl, HI, hbw⟩ := hrel
      by_cases hlt : k < l.length
      · obtain ⟨m, b, off, ht, rfl, hblt, t0, t1, t2, t3, t4, t5, t6⟩ := (h.keep hbw).at_ hlt
        have HT := Lib.hid ht
        have hb1 : Below w.heap.size w (wr.alloc (.cells #[.int .i64 m.sig, .int .i64 m.low, .int .i64 m.high, .int .i64 m.up, .int .i64 m.down, .int .i64 m.limit, .int .i64 m.heal] 44)) := hbw.alloc hbw.size _
        obtain ⟨y0, hy0⟩ : ∃ y, inB m.sig 0 19 = y := ⟨_, rfl⟩
        obtain ⟨y1, hy1⟩ : ∃ y, decide (m.low < -1000000) = y := ⟨_, rfl⟩
        obtain ⟨y2, hy2⟩ : ∃ y, decide (m.high < m.low) = y := ⟨_, rfl⟩
        obtain ⟨y3, hy3⟩ : ∃ y, decide (1000000 < m.high) = y := ⟨_, rfl⟩
        obtain ⟨y4, hy4⟩ : ∃ y, inB m.up 1 100 = y := ⟨_, rfl⟩
        obtain ⟨y5, hy5⟩ : ∃ y, inB m.down 1 100 = y := ⟨_, rfl⟩
        obtain ⟨y6, hy6⟩ : ∃ y, inB m.limit 1 1000 = y := ⟨_, rfl⟩
        obtain ⟨y7, hy7⟩ : ∃ y, inB m.heal 1 1000 = y := ⟨_, rfl⟩
        have HMB : Hid (monB m = (y0 && (!y1 && (!y2 && (!y3 && (y4 && (y5 && (y6 && y7)))))))) := by show _ = _; unfold monB; rw [hy0, hy1, hy2, hy3, hy4, hy5, hy6, hy7]
        have Y0 := Lib.hid hy0
        have Y4 := Lib.hid hy4
        have Y5 := Lib.hid hy5
        have Y6 := Lib.hid hy6
        have Y7 := Lib.hid hy7
        clear hy0 hy4 hy5 hy6 hy7 ht
        have hfail : monB m = false → checkM l = 100 := fun hf => by unfold checkM; rw [monsB_no HT.out hf]; rfl
        have HFA := Lib.hid hfail
        clear hfail
        rcases y0 with _ | _
        · go_wp2_with (go_at_call 66; refine (within_b _ _ _ _ _ Y0.out).mono ?_; rintro e w' ⟨rfl, rfl⟩)
          go_ret
          exact ⟨ret_i (by rw [← HR.out, HFA.out (by rw [HMB.out]; rfl)]), hb1⟩
        rcases y1 with _ | _
        rotate_left
        · go_wp2_with (go_at_call 66; refine (within_b _ _ _ _ _ Y0.out).mono ?_; rintro e w' ⟨rfl, rfl⟩)
          go_ret
          exact ⟨ret_i (by rw [← HR.out, HFA.out (by rw [HMB.out]; rfl)]), hb1⟩
        rcases y2 with _ | _
        rotate_left
        · go_wp2_with (go_at_call 66; refine (within_b _ _ _ _ _ Y0.out).mono ?_; rintro e w' ⟨rfl, rfl⟩)
          go_ret
          exact ⟨ret_i (by rw [← HR.out, HFA.out (by rw [HMB.out]; rfl)]), hb1⟩
        rcases y3 with _ | _
        rotate_left
        · go_wp2_with (go_at_call 66; refine (within_b _ _ _ _ _ Y0.out).mono ?_; rintro e w' ⟨rfl, rfl⟩)
          go_ret
          exact ⟨ret_i (by rw [← HR.out, HFA.out (by rw [HMB.out]; rfl)]), hb1⟩
        rcases y4 with _ | _
        · go_wp2_with (first | (go_at_call 66; (with_reducible refine (within_b m.sig _ _ _ _ Y0.out).mono ?_); rintro e w' ⟨rfl, rfl⟩) | (go_at_call 66; (with_reducible refine (within_b m.up _ _ _ _ Y4.out).mono ?_); rintro e w' ⟨rfl, rfl⟩))
          go_ret
          exact ⟨ret_i (by rw [← HR.out, HFA.out (by rw [HMB.out]; rfl)]), hb1⟩
        rcases y5 with _ | _
        · go_wp2_with (first | (go_at_call 66; (with_reducible refine (within_b m.sig _ _ _ _ Y0.out).mono ?_); rintro e w' ⟨rfl, rfl⟩) | (go_at_call 66; (with_reducible refine (within_b m.up _ _ _ _ Y4.out).mono ?_); rintro e w' ⟨rfl, rfl⟩) | (go_at_call 66; (with_reducible refine (within_b m.down _ _ _ _ Y5.out).mono ?_); rintro e w' ⟨rfl, rfl⟩))
          go_ret
          exact ⟨ret_i (by rw [← HR.out, HFA.out (by rw [HMB.out]; rfl)]), hb1⟩
        rcases y6 with _ | _
        · go_wp2_with (first | (go_at_call 66; (with_reducible refine (within_b m.sig _ _ _ _ Y0.out).mono ?_); rintro e w' ⟨rfl, rfl⟩) | (go_at_call 66; (with_reducible refine (within_b m.up _ _ _ _ Y4.out).mono ?_); rintro e w' ⟨rfl, rfl⟩) | (go_at_call 66; (with_reducible refine (within_b m.down _ _ _ _ Y5.out).mono ?_); rintro e w' ⟨rfl, rfl⟩) | (go_at_call 66; (with_reducible refine (within_b m.limit _ _ _ _ Y6.out).mono ?_); rintro e w' ⟨rfl, rfl⟩))
          go_ret
          exact ⟨ret_i (by rw [← HR.out, HFA.out (by rw [HMB.out]; rfl)]), hb1⟩
        rcases y7 with _ | _
        all_goals
          go_wp2_with (first | (go_at_call 66; (with_reducible refine (within_b m.sig _ _ _ _ Y0.out).mono ?_); rintro e w' ⟨rfl, rfl⟩) | (go_at_call 66; (with_reducible refine (within_b m.up _ _ _ _ Y4.out).mono ?_); rintro e w' ⟨rfl, rfl⟩) | (go_at_call 66; (with_reducible refine (within_b m.down _ _ _ _ Y5.out).mono ?_); rintro e w' ⟨rfl, rfl⟩) | (go_at_call 66; (with_reducible refine (within_b m.limit _ _ _ _ Y6.out).mono ?_); rintro e w' ⟨rfl, rfl⟩) | (go_at_call 66; (with_reducible refine (within_b m.heal _ _ _ _ Y7.out).mono ?_); rintro e w' ⟨rfl, rfl⟩))
        · go_ret
          exact ⟨ret_i (by rw [← HR.out, HFA.out (by rw [HMB.out]; rfl)]), hb1⟩
        · go_roundw
          case rel => exact ⟨k + 1, by omega, by go_num, upto_snoc HI.out HT.out (by rw [HMB.out]; rfl), hb1⟩
          case measure => simp [intOf]; omega
      · obtain rfl : k = l.length := by omega
        go_wp2_with fail
        go_ret
        exact ⟨ret_i (by rw [← HR.out]; unfold checkM; rw [monsB_yes (by omega) HI.out]; rfl), hbw⟩
end Go.Proofs.YtonpemikodajdaaDoor
