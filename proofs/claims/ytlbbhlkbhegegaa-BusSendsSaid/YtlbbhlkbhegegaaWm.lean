/- Walks: ignitionlaw04.works answers true. -/
import Derived.Test.YtlbbhlkbhegegaaRm
import Derived.Test.YtlbbhlkbhegegaaDelM
import Derived.Test.YtlbbhlkbhegegaaOrdF
import Derived.Test.YtlbbhlkbhegegaaProg
import Derived.Test.YtlbbhlkbhegegaaMem
import Derived.Test.YtlbbhlkbhegegaaN9
/- Walks: ignitionlaw04.Example; the examples as plain data. -/
namespace Go.Proofs.Ytlbbhlkbhegegaa
open Go.RowKit
def exF : List MFrame := [⟨2, 10, 0, 6, 1⟩, ⟨3, 15, 2, 12, 2⟩, ⟨4, 20, 0, 20, 3⟩]
def exN : MNet := ⟨[⟨10, 2⟩, ⟨10, 2⟩], [⟨20, 5, [0, 1]⟩, ⟨15, 5, [1]⟩]⟩
theorem exF_ok : framesB exF = true := by decide +kernel
theorem exF_resp : respL exF = [5, 10, 9] := by decide +kernel
theorem exN_ok : checkS exN = 0 := by decide +kernel
theorem exN_order : orderS exN = some [0, 1] := by decide +kernel
theorem exN_del : ∃ W D, delI exN [0, 1] (burst0 exN) (fun _ => 0) (fun _ => 0) = some (W, D) ∧ W 0 = 1 ∧ W 1 = 3 ∧ D 0 = 8 ∧ D 1 = 5 := by
  refine ⟨_, _, rfl, ?_, ?_, ?_, ?_⟩ <;> decide +kernel

theorem frames_new (w : World) (B t : Nat) (hB : w.heap.size < B) :
    FramesA (w.alloc (.cells #[.int .i64 2, .int .i64 10, .int .i64 0, .int .i64 6, .int .i64 1, .int .i64 3, .int .i64 15, .int .i64 2, .int .i64 12, .int .i64 2, .int .i64 4, .int .i64 20, .int .i64 0, .int .i64 20, .int .i64 3] t)) B (some ⟨w.heap.size, 0, none⟩) exF := by
  refine ⟨by unfold maxLen; decide, fun _ => ⟨w.heap.size, 0, rfl, hB, fun i j hi hj => ?_⟩⟩
  rw [newcell]
  have hi' : i < 3 := hi
  match i, hi', j, hj with
  | 0, _, 0, _ => rfl
  | 0, _, 1, _ => rfl
  | 0, _, 2, _ => rfl
  | 0, _, 3, _ => rfl
  | 0, _, 4, _ => rfl
  | 1, _, 0, _ => rfl
  | 1, _, 1, _ => rfl
  | 1, _, 2, _ => rfl
  | 1, _, 3, _ => rfl
  | 1, _, 4, _ => rfl
  | 2, _, 0, _ => rfl
  | 2, _, 1, _ => rfl
  | 2, _, 2, _ => rfl
  | 2, _, 3, _ => rfl
  | 2, _, 4, _ => rfl
theorem example_any (w : World) : Calls Try.prog 63 #[] w fun e w' => ∃ b, e = .returned (.slice (some ⟨b, 0, none⟩) 3 3) ∧ FramesA w' w'.heap.size (some ⟨b, 0, none⟩) exF ∧ Below w.heap.size w w' := by
  have h1 := frames_new w (w.heap.size + 1) 41 (by omega)
  go_enter Try.func63, Try.ntmps63
  go_wp2
  go_ret
  exact ⟨w.heap.size, rfl, by simpa using h1, (Below.refl _ _).alloc (Nat.le_refl _) _⟩
end Go.Proofs.Ytlbbhlkbhegegaa

/- Walks: ignitionlaw04.sameInts. -/
namespace Go.Proofs.Ytlbbhlkbhegegaa
open Go.RowKit

def sameL (a b : List Int) : Bool := decide (a = b)
theorem sameL_len {a b : List Int} (h : a.length ≠ b.length) : sameL a b = false := by
  unfold sameL; exact decide_eq_false fun e => h (by rw [e])
theorem sameL_no {a b : List Int} {k : Nat} (h : a.getD k 0 ≠ b.getD k 0) : sameL a b = false := by
  unfold sameL; exact decide_eq_false fun e => h (by rw [e])
theorem sameL_yes {a b : List Int} (hl : a.length = b.length) (h : ∀ j, j < a.length → a.getD j 0 = b.getD j 0) : sameL a b = true := by
  unfold sameL
  refine decide_eq_true (List.ext_getElem hl fun j h1 h2 => ?_)
  have := h j h1
  simpa [List.getD_eq_getElem?_getD, List.getElem?_eq_getElem h1, List.getElem?_eq_getElem h2] using this

set_option maxHeartbeats 400000 in
theorem same_any (A B : Option Addr) (n m cap cap' : Nat) (a b : List Int) (w : World) (BA BB : Nat) (ha : IntsA w BA A a) (hb : IntsA w BB B b) (hn : n = a.length) (hm : m = b.length) :
    Calls Try.prog 21 #[.slice A n cap, .slice B m cap'] w fun e w' => e = .returned (.bool (sameL a b)) ∧ ∃ q, w' = w.drewN q := by
  subst hn
  subst hm
  have hla := ha.1
  have hlb := hb.1
  unfold maxLen at hla hlb
  by_cases hl : a.length = b.length
  · have HL := Lib.hid hl
    have hl1 : a.length ≤ b.length := by omega
    have hl2 : (((a.length : Nat) : Int) != (b.length : Int)) = false := by simp [hl]
    clear hl
    go_enter Try.func21, Try.ntmps21
    go_wp2
    go_loopw [5] (fun i wr => ∃ k : Nat, k ≤ a.length ∧ i = .int .i64 k ∧ (∀ j, j < k → a.getD j 0 = b.getD j 0) ∧ ∃ q, wr = w.drewN q) (fun i _ => a.length - (intOf i).toNat)
    case atStart => exact ⟨0, Nat.zero_le _, rfl, by omega, 0, rfl⟩
    case round =>
      obtain ⟨k, hk, rfl, hi, q, hwr⟩ := hrel
      have HI := Lib.hid hi
      have ha' : IntsA wr BA A a := by rw [hwr]; exact ha
      have hb' : IntsA wr BB B b := by rw [hwr]; exact hb
      have HWR := Lib.hid hwr
      clear hi hwr
      by_cases hlt : k < a.length
      · obtain ⟨b1, o1, rfl, _, hc1⟩ := ha'.at_ hlt
        obtain ⟨b2, o2, rfl, _, hc2⟩ := hb'.at_ (k := k) (by omega)
        generalize hx : a.getD k 0 = x at *
        generalize hy : b.getD k 0 = y at *
        have HX := Lib.hid hx
        have HY := Lib.hid hy
        clear hx hy
        have hkb : k < b.length := by omega
        go_wp2_with fail
        go_quiet (fail)
        by_cases he : x = y
        · subst he
          go_wp2_with fail
          go_roundw
          case rel => exact ⟨k + 1, by omega, by go_num, fun j hj => by
            rcases Nat.lt_or_ge j k with h1 | h1
            · exact HI.out j h1
            · have : j = k := by omega
              subst this; rw [HX.out, HY.out], q + nq, by rw [HWR.out, World.drewN_drewN]⟩
          case measure => simp [intOf]; omega
        · go_wp2_with fail
          go_ret
          exact ⟨ret_b (sameL_no (k := k) (by rw [HX.out, HY.out]; exact he)).symm, q + nq, by rw [HWR.out, World.drewN_drewN]⟩
      · go_wp2_with fail
        go_ret
        exact ⟨ret_b (sameL_yes HL.out fun j hj => HI.out j (by omega)).symm, q, HWR.out⟩
  · have hl2 : (((a.length : Nat) : Int) != (b.length : Int)) = true := by rw [bne_iff_ne]; omega
    have HL : Hid (a.length ≠ b.length) := hl
    clear hl
    go_enter Try.func21, Try.ntmps21
    go_wp2
    go_ret
    exact ⟨ret_b (sameL_len HL.out).symm, 0, rfl⟩
end Go.Proofs.Ytlbbhlkbhegegaa

/- Walks: ignitionlaw04.works answers true. -/
namespace Go.Proofs.Ytlbbhlkbhegegaa
open Go.RowKit

theorem below_drewN {B : Nat} {a w : World} (h : Below B a w) (n : Nat) : Below B a (w.drewN n) := ⟨h.os, h.tape, h.output, h.size, h.block⟩
theorem ints_new {w : World} {cs : Array Value} {t : TypeId} {l : List Int} (hc : cs = (l.map (Value.int .i64)).toArray) (hl : l.length ≤ 1000) : IntsA (w.alloc (.cells cs t)) (w.heap.size + 1) (some ⟨w.heap.size, 0, none⟩) l := by
  subst hc
  refine ⟨by unfold maxLen; omega, fun _ => ⟨w.heap.size, 0, rfl, by omega, fun i hi => ?_⟩⟩
  rw [newcell]
  simp [hi]
/-- sameInts, its answer named -/
theorem same_b {A B : Option Addr} {n m cap cap' : Nat} {a b : List Int} {w : World} {BA BB : Nat} (ha : IntsA w BA A a) (hb : IntsA w BB B b) (hn : n = a.length) (hm : m = b.length) {r : Bool} (hr : sameL a b = r) :
    Calls Try.prog 21 #[.slice A n cap, .slice B m cap'] w fun e w' => e = .returned (.bool r) ∧ Below w.heap.size w w' :=
  (same_any A B n m cap cap' a b w BA BB ha hb hn hm).mono fun e w' ⟨he, q, hq⟩ => ⟨by rw [he, hr], by subst hq; exact below_drewN (Below.refl _ _) q⟩

theorem net_new (w : World) : NetA (((((w.alloc (.cells #[.int .i64 10, .int .i64 2, .int .i64 10, .int .i64 2] 74)).alloc (.cells #[.int .i64 0, .int .i64 1] 3)).alloc (.cells #[.int .i64 1] 3)).alloc (.cells #[.int .i64 20, .int .i64 5, .slice (some ⟨w.heap.size + 1, 0, none⟩) 2 2, .int .i64 15, .int .i64 5, .slice (some ⟨w.heap.size + 1 + 1, 0, none⟩) 1 1] 47)).alloc (.cells #[.slice (some ⟨w.heap.size, 0, none⟩) 2 2, .slice (some ⟨w.heap.size + 1 + 1 + 1, 0, none⟩) 2 2] 25)) (w.heap.size + 1 + 1 + 1 + 1) (some ⟨w.heap.size, 0, none⟩) (some ⟨w.heap.size + 1 + 1 + 1, 0, none⟩) exN := by
  refine ⟨by unfold maxLen; decide, by unfold maxLen; decide, fun _ => ⟨w.heap.size, 0, rfl, by omega, fun i j hi hj => ?_⟩, fun i => if i = 0 then (some ⟨w.heap.size + 1, 0, none⟩, 2) else (some ⟨w.heap.size + 1 + 1, 0, none⟩, 1), fun _ => ⟨w.heap.size + 1 + 1 + 1, 0, rfl, by omega, fun i j hi hj => ?_⟩, fun i hi => ?_⟩
  · rw [acell _ _ _ _ (by simp; omega), acell _ _ _ _ (by simp; omega), acell _ _ _ _ (by simp; omega), acell _ _ _ _ (by simp), newcell]
    have hi' : i < 2 := hi
    match i, hi', j, hj with
    | 0, _, 0, _ => rfl
    | 0, _, 1, _ => rfl
    | 1, _, 0, _ => rfl
    | 1, _, 1, _ => rfl
  · rw [acell _ _ _ _ (by simp), newcell' (by simp)]
    have hi' : i < 2 := hi
    match i, hi', j, hj with
    | 0, _, 0, _ => rfl
    | 0, _, 1, _ => rfl
    | 0, _, 2, _ => rfl
    | 1, _, 0, _ => rfl
    | 1, _, 1, _ => rfl
    | 1, _, 2, _ => rfl
  · have hi' : i < 2 := hi
    match i, hi' with
    | 0, _ =>
      refine ⟨Nat.le_refl _, by unfold maxLen; decide, fun _ => ⟨w.heap.size + 1, 0, rfl, by omega, fun j hj => ?_⟩⟩
      rw [acell _ _ _ _ (by simp), acell _ _ _ _ (by simp), acell _ _ _ _ (by simp), newcell' (by simp)]
      have hj' : j < 2 := hj
      match j, hj' with
      | 0, _ => rfl
      | 1, _ => rfl
    | 1, _ =>
      refine ⟨Nat.le_refl _, by unfold maxLen; decide, fun _ => ⟨w.heap.size + 1 + 1, 0, rfl, by omega, fun j hj => ?_⟩⟩
      rw [acell _ _ _ _ (by simp), acell _ _ _ _ (by simp), newcell' (by simp)]
      have hj' : j < 1 := hj
      match j, hj' with
      | 0, _ => rfl
theorem ex_delays (c1 c2 : Nat) {A1 A2 : Option Addr} (w : World) (h : NetA w w.heap.size A1 A2 exN) : Calls Try.prog 19 #[.agg #[.slice A1 2 c1, .slice A2 2 c2]] w fun e w' =>
    ∃ gw gd, e = .returned (.tuple #[.slice (some ⟨gw, 0, none⟩) 2 2, .slice (some ⟨gd, 0, none⟩) 2 2, .int .i64 0]) ∧ IntsA w' w'.heap.size (some ⟨gw, 0, none⟩) [1, 3] ∧ IntsA w' w'.heap.size (some ⟨gd, 0, none⟩) [8, 5] ∧ Below w.heap.size w w' := by
  refine (delays_any A1 A2 c1 c2 exN w h exN_ok).mono fun e w' ⟨hb, hr⟩ => ?_
  rcases hr with ⟨h1, _⟩ | ⟨_, l, hl, hr⟩
  · exact absurd exN_ok h1
  · rw [exN_order] at hl
    injection hl with hl
    subst hl
    obtain ⟨W, D, he, w0, w1, d0, d1⟩ := exN_del
    rcases hr with ⟨hr, _⟩ | ⟨W', D', gw, gd, hr, rfl, _, _, hW, hD⟩
    · have hr := he.symm.trans hr; cases hr
    · have hr := he.symm.trans hr
      injection hr with hr
      injection hr with hr1 hr2
      subst hr1
      subst hr2
      have e1 : OwnF w' gw 3 [1, 3].length (fun j => .int .i64 (([1, 3] : List Int).getD j 0)) := hW.congr fun j hj => by
        have hj' : j < 2 := hj
        match j, hj' with
        | 0, _ => rw [w0]; rfl
        | 1, _ => rw [w1]; rfl
      have e2 : OwnF w' gd 3 [8, 5].length (fun j => .int .i64 (([8, 5] : List Int).getD j 0)) := hD.congr fun j hj => by
        have hj' : j < 2 := hj
        match j, hj' with
        | 0, _ => rw [d0]; rfl
        | 1, _ => rw [d1]; rfl
      exact ⟨gw, gd, rfl, e1.ints (by unfold maxLen; decide), e2.ints (by unfold maxLen; decide), hb⟩
theorem ex_responses (cap : Nat) {A : Option Addr} (w : World) (h : FramesA w w.heap.size A exF) (hcap : 3 ≤ cap) : Calls Try.prog 25 #[.slice A 3 cap] w fun e w' => ∃ A' cap', e = .returned (.tuple #[.slice A' 3 cap', .int .i64 0]) ∧ IntsA w' w'.heap.size A' [5, 10, 9] ∧ Below w.heap.size w w' := by
  refine (responses_any A cap exF w h hcap).mono fun e w' ⟨hb, A', cap', he, _, hi⟩ => ?_
  rw [exF_resp] at he hi
  rw [fcheck_yes exF_ok] at he
  exact ⟨A', cap', he, hi, hb⟩
set_option maxRecDepth 100000 in
set_option maxHeartbeats 2000000 in
theorem works_any (w : World) : Calls Try.prog 22 #[] w fun e w' => e = .returned (.bool true) ∧ Below w.heap.size w w' := by
  have s1 : Hid (sameL [5, 10, 9] [5, 10, 9] = true) := by unfold sameL; exact decide_eq_true rfl
  have s2 : Hid (sameL [1, 3] [1, 3] = true) := by unfold sameL; exact decide_eq_true rfl
  have s3 : Hid (sameL [8, 5] [8, 5] = true) := by unfold sameL; exact decide_eq_true rfl
  go_enter Try.func22, Try.ntmps22
  go_wp2_with (first
    | (go_at_call 63; refine (example_any _).mono ?_; rintro e w1 ⟨b, rfl, hF, hb1⟩)
    | (go_at_call 25; refine (ex_responses _ _ hF (by omega)).mono ?_; rintro e w2 ⟨A, c, rfl, hL, hb2⟩; have hN := net_new w2))
  have hbN : Below w2.heap.size w2 (((((w2.alloc (.cells #[.int .i64 10, .int .i64 2, .int .i64 10, .int .i64 2] 74)).alloc (.cells #[.int .i64 0, .int .i64 1] 3)).alloc (.cells #[.int .i64 1] 3)).alloc (.cells #[.int .i64 20, .int .i64 5, .slice (some ⟨w2.heap.size + 1, 0, none⟩) 2 2, .int .i64 15, .int .i64 5, .slice (some ⟨w2.heap.size + 1 + 1, 0, none⟩) 1 1] 47)).alloc (.cells #[.slice (some ⟨w2.heap.size, 0, none⟩) 2 2, .slice (some ⟨w2.heap.size + 1 + 1 + 1, 0, none⟩) 2 2] 25)) :=
    (((((Below.refl _ _).alloc (Nat.le_refl _) _).alloc (by simp) _).alloc (by simp; omega) _).alloc (by simp; omega) _).alloc (by simp; omega) _
  have hD := ex_delays 2 2 _ (hN.more (B' := World.heap _ |>.size) (by simp))
  generalize hW : World.alloc _ (Obj.cells #[.slice (some ⟨w2.heap.size, 0, none⟩) 2 2, .slice (some ⟨w2.heap.size + 1 + 1 + 1, 0, none⟩) 2 2] 25) = w3 at *
  clear hW hN
  have hL3 := hL.below hbN (Nat.le_refl _)
  have hb3 := (hb1.trans (hb2.mono hb1.size)).trans (hbN.mono (by have := hb1.size; have := hb2.size; omega))
  have hs3 : w2.heap.size ≤ w3.heap.size := hbN.size
  clear hb1 hb2 hbN hF hL
  refine hD.mono ?_
  rintro e w4 ⟨gw, gd, rfl, hX, hY, hb4⟩
  have hL4 := hL3.below (hb4.mono hs3) (Nat.le_refl _)
  have hb5 := hb3.trans (hb4.mono hb3.size)
  have hs43 := hb4.size
  clear hD hL3 hb3 hb4
  have hs4 : w2.heap.size ≤ w4.heap.size := Nat.le_trans hs3 hs43
  have n1 := ints_new (w := w4) (cs := #[.int .i64 5, .int .i64 10, .int .i64 9]) (t := 3) (l := [5, 10, 9]) rfl (by decide)
  have a1 : Below w4.heap.size w4 (w4.alloc (.cells #[.int .i64 5, .int .i64 10, .int .i64 9] 3)) := (Below.refl _ _).alloc (Nat.le_refl _) _
  have hc1 := same_b (cap := c) (cap' := 3) (n := 3) (m := 3) (hL4.below (a1.mono hs4) (Nat.le_refl _)) n1 rfl rfl s1.out
  go_wp2_with fail
  refine hc1.mono ?_
  rintro e w5 ⟨rfl, hb6⟩
  have hb7 := a1.trans (hb6.mono a1.size)
  have hX5 := hX.below hb7 (Nat.le_refl _)
  have hY5 := hY.below hb7 (Nat.le_refl _)
  have hb8 := hb5.trans (hb7.mono hb5.size)
  have hs5 := hb7.size
  clear hc1 n1 a1 hb6 hb7 hX hY hb5 hL4
  have n1 := ints_new (w := w5) (cs := #[.int .i64 1, .int .i64 3]) (t := 3) (l := [1, 3]) rfl (by decide)
  have a1 : Below w5.heap.size w5 (w5.alloc (.cells #[.int .i64 1, .int .i64 3] 3)) := (Below.refl _ _).alloc (Nat.le_refl _) _
  have hc1 := same_b (cap := 2) (cap' := 2) (n := 2) (m := 2) (hX5.below (a1.mono hs5) (Nat.le_refl _)) n1 rfl rfl s2.out
  go_wp2_with fail
  refine hc1.mono ?_
  rintro e w6 ⟨rfl, hb6⟩
  have hb7 := a1.trans (hb6.mono a1.size)
  have hY6 := hY5.below (hb7.mono hs5) (Nat.le_refl _)
  have hb9 := hb8.trans (hb7.mono hb8.size)
  have hs6 := hb7.size
  clear hc1 n1 a1 hb6 hb7 hX5 hY5 hb8
  have n1 := ints_new (w := w6) (cs := #[.int .i64 8, .int .i64 5]) (t := 3) (l := [8, 5]) rfl (by decide)
  have a1 : Below w6.heap.size w6 (w6.alloc (.cells #[.int .i64 8, .int .i64 5] 3)) := (Below.refl _ _).alloc (Nat.le_refl _) _
  have hc1 := same_b (cap := 2) (cap' := 2) (n := 2) (m := 2) (hY6.below (a1.mono (by omega)) (Nat.le_refl _)) n1 rfl rfl s3.out
  go_wp2_with fail
  refine hc1.mono ?_
  rintro e w7 ⟨rfl, hb6⟩
  have hb7 := a1.trans (hb6.mono a1.size)
  have hb10 := hb9.trans (hb7.mono hb9.size)
  clear hc1 n1 a1 hb6 hb7
  go_wp2_with fail
  go_ret
  exact ⟨rfl, hb10⟩
end Go.Proofs.Ytlbbhlkbhegegaa
