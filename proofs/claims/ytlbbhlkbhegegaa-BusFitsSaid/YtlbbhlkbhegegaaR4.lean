/- Walks: bus.settle, at both of its functions. -/
import Derived.Test.YtlbbhlkbhegegaaR3
namespace Go.Proofs.Ytlbbhlkbhegegaa
open Go.RowKit

def settleS (F : Int → Int) : Nat → Int → Option Int
  | 0, _ => none
  | m + 1, n => if n ≤ 1000000 then (if F n = n then some n else settleS F m (F n)) else none
theorem settle_hit {F : Int → Int} {m : Nat} {n : Int} (h : n ≤ 1000000) (he : F n = n) : settleS F (m + 1) n = some n := by rw [settleS, if_pos h, if_pos he]
theorem settle_next {F : Int → Int} {m : Nat} {n : Int} (h : n ≤ 1000000) (he : F n ≠ n) : settleS F (m + 1) n = settleS F m (F n) := by rw [settleS, if_pos h, if_neg he]
theorem settle_out {F : Int → Int} {m : Nat} {n : Int} (h : ¬ n ≤ 1000000) : settleS F (m + 1) n = none := by rw [settleS, if_neg h]
def settleV : Option Int → Value
  | some n => .tuple #[.int .i64 n, .bool true]
  | none => .tuple #[.int .i64 0, .bool false]

set_option maxHeartbeats 1000000 in
theorem settle98 {A : Option Addr} {cap : Nat} {l : List MFrame} {ab : Nat → Bool} {lb bb gb kb ob pb : Nat} {block : Int} {own : MFrame} (n0 : Int) (w : World) (h : REnv A cap l ab lb bb gb kb ob pb block own w) 
    (hF : ∀ (k : Nat) (f : MFrame), l[k]? = some f → FOk f) (hO : FOk own) (hl : l.length ≤ 40) (hB : 0 ≤ block ∧ block ≤ 1000) (hmono : ∀ a b, 0 ≤ a → a ≤ b → busyS l ab block own a ≤ busyS l ab block own b) (h0 : 0 ≤ n0 ∧ n0 ≤ busyS l ab block own n0) :
    Calls Try.prog 97 #[.int .i64 n0, .func (.func 98) #[] #[.pointer (some ⟨kb, 0, none⟩), .pointer (some ⟨ob, 0, none⟩), .pointer (some ⟨pb, 0, none⟩)]] w fun e w' => e = .returned (settleV (settleS (busyS l ab block own) 1000002 n0)) ∧ Below w.heap.size w w' := by
  have HF := Lib.hid hF
  have HO := Lib.hid hO
  have HM := Lib.hid hmono
  clear hF hO hmono
  go_enter Try.func97, Try.ntmps97
  go_wp2_with fail
  go_loopw [0] (fun v wr => ∃ (n : Int) (m : Nat), v = .int .i64 n ∧ 0 ≤ n ∧ Hid (n ≤ busyS l ab block own n ∧ (1000001 - n).toNat ≤ m ∧ settleS (busyS l ab block own) (m + 1) n = settleS (busyS l ab block own) 1000002 n0) ∧ Below w.heap.size w wr) (fun v _ => (1000001 - intOf v).toNat)
  case atStart => exact ⟨n0, 1000001, rfl, h0.1, ⟨h0.2, by omega, rfl⟩, Below.refl _ _⟩
  case round =>
    obtain ⟨n, m, rfl, hn, HR, hbw⟩ := hrel
    have hR := h.below hbw
    by_cases hlt : n ≤ 1000000
    · have HC : Hid (∀ x, busyS l ab block own n = x → Calls Try.prog 98 #[.int .i64 n, .pointer (some ⟨kb, 0, none⟩), .pointer (some ⟨ob, 0, none⟩), .pointer (some ⟨pb, 0, none⟩)] wr fun e w' => e = .returned (.int .i64 x) ∧ Below wr.heap.size wr w') := fun x hx => hx ▸ busy98 n wr hR HF.out HO.out hl (by omega) hB
      obtain ⟨m, rfl⟩ : ∃ m0, m = m0 + 1 := ⟨m - 1, by have := HR.out.2.1; omega⟩
      by_cases he : busyS l ab block own n = n
      · have HE := Lib.hid he
        clear he
        go_wp2_with (go_at_call 98; refine (HC.out n HE.out).mono ?_; rintro e w2 ⟨rfl, hb2⟩)
        go_ret2
        exact ⟨by rw [← HR.out.2.2, settle_hit hlt HE.out]; rfl, hbw.trans (hb2.mono hbw.size)⟩
      · generalize hx : busyS l ab block own n = x at he
        have HX := Lib.hid hx
        have hxn : n < x := by
          have := HR.out.1
          rw [hx] at this
          omega
        have he0 : (x == n) = false := by simpa using he
        clear hx he
        go_wp2_with (go_at_call 98; refine (HC.out x HX.out).mono ?_; rintro e w2 ⟨rfl, hb2⟩)
        go_roundw
        case rel =>
          refine ⟨x, m, rfl, by omega, ⟨?_, by have := HR.out.2.1; omega, ?_⟩, hbw.trans (hb2.mono hbw.size)⟩
          · have := HM.out n x hn (by omega)
            rw [HX.out] at this
            exact this
          · rw [← HR.out.2.2, settle_next (m := m + 1) hlt (by rw [HX.out]; omega), HX.out]
        case measure => simp [intOf]; omega
    · go_wp2_with fail
      go_ret2
      exact ⟨by rw [← HR.out.2.2, settle_out (show ¬ n ≤ 1000000 by omega)]; rfl, hbw⟩
set_option maxHeartbeats 1000000 in
theorem settle100 {A : Option Addr} {cap : Nat} {l : List MFrame} {ab : Nat → Bool} {lb bb gb kb ob pb : Nat} {block : Int} {own : MFrame} (qb : Nat) (q : Int) (n0 : Int) (w : World) (h : REnv A cap l ab lb bb gb kb ob pb block own w) (hqb : qb < w.heap.size) (hqc : w.cell? ⟨qb, 0, none⟩ = some (.int .i64 q)) (hQ : 0 ≤ q ∧ q ≤ 10000000)
    (hF : ∀ (k : Nat) (f : MFrame), l[k]? = some f → FOk f) (hO : FOk own) (hl : l.length ≤ 40) (hB : 0 ≤ block ∧ block ≤ 1000) (hmono : ∀ a b, 0 ≤ a → a ≤ b → waitS l ab block own q a ≤ waitS l ab block own q b) (h0 : 0 ≤ n0 ∧ n0 ≤ waitS l ab block own q n0) :
    Calls Try.prog 97 #[.int .i64 n0, .func (.func 100) #[] #[.pointer (some ⟨kb, 0, none⟩), .pointer (some ⟨qb, 0, none⟩), .pointer (some ⟨ob, 0, none⟩), .pointer (some ⟨pb, 0, none⟩)]] w fun e w' => e = .returned (settleV (settleS (waitS l ab block own q) 1000002 n0)) ∧ Below w.heap.size w w' := by
  have HF := Lib.hid hF
  have HO := Lib.hid hO
  have HM := Lib.hid hmono
  clear hF hO hmono
  go_enter Try.func97, Try.ntmps97
  go_wp2_with fail
  go_loopw [0] (fun v wr => ∃ (n : Int) (m : Nat), v = .int .i64 n ∧ 0 ≤ n ∧ Hid (n ≤ waitS l ab block own q n ∧ (1000001 - n).toNat ≤ m ∧ settleS (waitS l ab block own q) (m + 1) n = settleS (waitS l ab block own q) 1000002 n0) ∧ Below w.heap.size w wr) (fun v _ => (1000001 - intOf v).toNat)
  case atStart => exact ⟨n0, 1000001, rfl, h0.1, ⟨h0.2, by omega, rfl⟩, Below.refl _ _⟩
  case round =>
    obtain ⟨n, m, rfl, hn, HR, hbw⟩ := hrel
    have hR := h.below hbw
    by_cases hlt : n ≤ 1000000
    · have HC : Hid (∀ x, waitS l ab block own q n = x → Calls Try.prog 100 #[.int .i64 n, .pointer (some ⟨kb, 0, none⟩), .pointer (some ⟨qb, 0, none⟩), .pointer (some ⟨ob, 0, none⟩), .pointer (some ⟨pb, 0, none⟩)] wr fun e w' => e = .returned (.int .i64 x) ∧ Below wr.heap.size wr w') := fun x hx => hx ▸ wait100 qb q n wr hR (by have := hbw.size; omega) ((bcell hbw qb 0 hqb).trans hqc) hQ HF.out HO.out hl (by omega) hB
      obtain ⟨m, rfl⟩ : ∃ m0, m = m0 + 1 := ⟨m - 1, by have := HR.out.2.1; omega⟩
      by_cases he : waitS l ab block own q n = n
      · have HE := Lib.hid he
        clear he
        go_wp2_with (go_at_call 100; refine (HC.out n HE.out).mono ?_; rintro e w2 ⟨rfl, hb2⟩)
        go_ret2
        exact ⟨by rw [← HR.out.2.2, settle_hit hlt HE.out]; rfl, hbw.trans (hb2.mono hbw.size)⟩
      · generalize hx : waitS l ab block own q n = x at he
        have HX := Lib.hid hx
        have hxn : n < x := by
          have := HR.out.1
          rw [hx] at this
          omega
        have he0 : (x == n) = false := by simpa using he
        clear hx he
        go_wp2_with (go_at_call 100; refine (HC.out x HX.out).mono ?_; rintro e w2 ⟨rfl, hb2⟩)
        go_roundw
        case rel =>
          refine ⟨x, m, rfl, by omega, ⟨?_, by have := HR.out.2.1; omega, ?_⟩, hbw.trans (hb2.mono hbw.size)⟩
          · have := HM.out n x hn (by omega)
            rw [HX.out] at this
            exact this
          · rw [← HR.out.2.2, settle_next (m := m + 1) hlt (by rw [HX.out]; omega), HX.out]
        case measure => simp [intOf]; omega
    · go_wp2_with fail
      go_ret2
      exact ⟨by rw [← HR.out.2.2, settle_out (show ¬ n ≤ 1000000 by omega)]; rfl, hbw⟩
end Go.Proofs.Ytlbbhlkbhegegaa
