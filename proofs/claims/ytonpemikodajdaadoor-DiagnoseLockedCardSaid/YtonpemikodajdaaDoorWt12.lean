/- The rows of a watch in memory; walks: all rows are lawful. -/
import Derived.Test.YtonpemikodajdaaDoorWt2
namespace Go.Proofs.YtonpemikodajdaaDoor
open Go.RowKit

def RowsA (w : World) (B : Nat) (A : Option Addr) (rs : List (List Int)) : Prop :=
  rs.length ≤ maxLen ∧ ∃ pv : Nat → Option Addr × Nat, SlA w B 1 A rs.length (fun i _ => .slice (pv i).1 (rs.getD i []).length (pv i).2) ∧ ∀ i, i < rs.length → (rs.getD i []).length ≤ (pv i).2 ∧ IntsA w B (pv i).1 (rs.getD i [])
theorem RowsA.at_ {w : World} {B : Nat} {A : Option Addr} {rs : List (List Int)} (h : RowsA w B A rs) {k : Nat} (hk : k < rs.length) :
    ∃ row b off Ap cp, rs[k]? = some row ∧ A = some ⟨b, off, none⟩ ∧ b < B ∧ w.cell? ⟨b, off + k, none⟩ = some (.slice Ap row.length cp) ∧ row.length ≤ cp ∧ IntsA w B Ap row := by
  obtain ⟨_, pv, h, hp⟩ := h
  obtain ⟨b, off, hA, hlt, hc⟩ := h (by omega)
  have c0 := hc k 0 hk (by omega)
  have hp' := hp k hk
  have e : rs.getD k [] = rs[k] := by rw [List.getD_eq_getElem?_getD, List.getElem?_eq_getElem hk]; rfl
  rw [e] at hp'
  simp only [e] at c0
  exact ⟨rs[k], b, off, (pv k).1, (pv k).2, List.getElem?_eq_getElem hk, hA, hlt, by simpa using c0, hp'.1, hp'.2⟩
theorem RowsA.below {w w' : World} {B B' : Nat} {A : Option Addr} {rs : List (List Int)} (h : RowsA w B A rs) (hb : Below B' w w') (hB : B ≤ B') : RowsA w' B' A rs := by
  obtain ⟨hl, pv, h, hp⟩ := h
  exact ⟨hl, pv, h.below hb hB, fun i hi => ⟨(hp i hi).1, (hp i hi).2.below hb hB⟩⟩
theorem RowsA.keep {w w' : World} {B : Nat} {A : Option Addr} {rs : List (List Int)} (h : RowsA w B A rs) (hb : Below B w w') : RowsA w' B A rs := h.below hb (Nat.le_refl _)
theorem RowsA.more {w : World} {B B' : Nat} {A : Option Addr} {rs : List (List Int)} (h : RowsA w B A rs) (hB : B ≤ B') : RowsA w B' A rs := by
  obtain ⟨hl, pv, h, hp⟩ := h
  exact ⟨hl, pv, h.more hB, fun i hi => ⟨(hp i hi).1, (hp i hi).2.more hB⟩⟩
theorem clo50 (tb : Nat) (A : Option Addr) (lc : Nat) (l : List MMon) (R : Option Addr) (rc : Nat) (row : List Int) (w : World) (h : MonsA w w.heap.size A l) (htb : w.cell? ⟨tb, 0, none⟩ = some (.slice A l.length lc)) (hr : IntsA w w.heap.size R row) {b : Bool} (hb : lawB l row = b) :
    Calls Tryd.prog 50 #[.slice R row.length rc, .pointer (some ⟨tb, 0, none⟩)] w fun e w' => e = .returned (.bool !b) ∧ Below w.heap.size w w' := by
  have HC := Lib.hid (lawful_any A lc l R rc row w h hr hb)
  clear hb
  go_enter Tryd.func50, Tryd.ntmps50
  go_wp2_with (go_at_call 51; refine HC.out.mono ?_; rintro e w2 ⟨rfl, hb2⟩)
  go_ret
  exact ⟨rfl, hb2⟩
set_option maxHeartbeats 1000000 in
theorem idx86 (A : Option Addr) (cap : Nat) (rs : List (List Int)) (tb : Nat) (A2 : Option Addr) (lc : Nat) (l : List MMon) (w : World) (h : RowsA w w.heap.size A rs) (hm : MonsA w w.heap.size A2 l) (htb : w.cell? ⟨tb, 0, none⟩ = some (.slice A2 l.length lc)) (hltb : tb < w.heap.size) :
    Calls Tryd.prog 86 #[.slice A rs.length cap, .func (.func 50) #[] #[.pointer (some ⟨tb, 0, none⟩)]] w fun e w' => (∃ i : Int, e = .returned (.int .i64 i) ∧ IdxB i (rs.all (lawB l))) ∧ Below w.heap.size w w' := by
  have hlen := h.1
  unfold maxLen at hlen
  go_enter Tryd.func86, Tryd.ntmps86
  go_wp2_with fail
  go_loopw [8] (fun i wr => ∃ k : Nat, k ≤ rs.length ∧ i = .int .i64 k ∧ Hid (∀ (j : Nat) (m : List Int), j < k → rs[j]? = some m → lawB l m = true) ∧ Below w.heap.size w wr) (fun i _ => rs.length - (intOf i).toNat)
  case atStart => exact ⟨0, Nat.zero_le _, rfl, fun j m hj => by omega, Below.refl _ _⟩
  case round =>
    obtain ⟨k, hk, rfl, HI, hbw⟩ := hrel
    by_cases hlt : k < rs.length
    · obtain ⟨row, b, off, Ap, cp, ht, rfl, hblt, t0, hcp, hri⟩ := (h.keep hbw).at_ hlt
      have HT := Lib.hid ht
      have hc := (bcell hbw tb 0 hltb).trans htb
      rcases hx : lawB l row
      all_goals
        have HX := Lib.hid hx
        have HC := Lib.hid (clo50 tb A2 lc l Ap cp row wr ((hm.keep hbw).more hbw.size) hc (hri.more hbw.size) hx)
        clear hx ht
        go_wp2_with (go_at_call 50; refine HC.out.mono ?_; rintro e w2 ⟨rfl, hb2⟩)
      · go_ret
        refine ⟨⟨k, rfl, ⟨fun _ => ?_, fun _ => by omega⟩⟩, hbw.trans (hb2.mono hbw.size)⟩
        exact all_no HT.out HX.out
      · go_roundw
        case rel => exact ⟨k + 1, by omega, by go_num, upto_snoc HI.out HT.out HX.out, hbw.trans (hb2.mono hbw.size)⟩
        case measure => simp [intOf]; omega
    · obtain rfl : k = rs.length := by omega
      go_wp2_with fail
      go_ret
      refine ⟨⟨-1, rfl, ⟨fun h => by omega, fun h => ?_⟩⟩, hbw⟩
      rw [all_yes HI.out] at h
      cases h
theorem con49 (A : Option Addr) (cap : Nat) (rs : List (List Int)) (tb : Nat) (A2 : Option Addr) (lc : Nat) (l : List MMon) (w : World) (h : RowsA w w.heap.size A rs) (hm : MonsA w w.heap.size A2 l) (htb : w.cell? ⟨tb, 0, none⟩ = some (.slice A2 l.length lc)) (hltb : tb < w.heap.size) {b : Bool} (he : rs.all (lawB l) = b) :
    Calls Tryd.prog 49 #[.slice A rs.length cap, .func (.func 50) #[] #[.pointer (some ⟨tb, 0, none⟩)]] w fun e w' => e = .returned (.bool !b) ∧ Below w.heap.size w w' := by
  have HC := Lib.hid (idx86 A cap rs tb A2 lc l w h hm htb hltb)
  have HE := Lib.hid he
  clear he
  go_enter Tryd.func49, Tryd.ntmps49
  go_wp2_with (go_at_call 86; refine HC.out.mono ?_; rintro e w2 ⟨⟨i, rfl, hi⟩, hb2⟩; have HI := Lib.hid hi; clear hi)
  go_ret
  refine ⟨ret_b ?_, hb2⟩
  rcases b with _ | _
  · exact decide_eq_true (HI.out.2 HE.out)
  · exact decide_eq_false fun h => by have := HI.out.1 h; rw [HE.out] at this; cases this
end Go.Proofs.YtonpemikodajdaaDoor
