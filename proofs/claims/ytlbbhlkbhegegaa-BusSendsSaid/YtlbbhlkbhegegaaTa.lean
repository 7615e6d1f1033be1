/- Walks of the slots: mask, free, put, copied, place; sort and clone of messages. -/
import Derived.Test.YtlbbhlkbhegegaaG1
import Derived.Test.YtlbbhlkbhegegaaN1
import Derived.Test.YtlbbhlkbhegegaaTail
import Derived.Laws.BitsAllLaws
import Derived.Test.YtlbbhlkbhegegaaOwn
import Derived.Test.YtlbbhlkbhegegaaQb
import Derived.Deep.RegionLaw
import Derived.Deep.DeepCutAuto
import Derived.Test.YtlbbhlkbhegegaaPl9
import Derived.Deep.RegionHeld3
import Derived.Test.YtlbbhlkbhegegaaSl2
import Derived.Test.YtlbbhlkbhegegaaFo
/- Walks: the table's mask. -/
namespace Go.Proofs.Ytlbbhlkbhegegaa
open Go.RowKit

/-- how many cycles a class has -/
def roundsC (C e b : Nat) : Nat := (C - b + e - 1) / e
def maskC (C e b : Nat) : Nat := maskK e b (roundsC C e b)
theorem rounds_ok {C e b : Nat} (he : 0 < e) : (roundsC C e b = 0 ∨ b + (roundsC C e b - 1) * e < C) ∧ C ≤ b + roundsC C e b * e := by
  unfold roundsC
  have h1 := Nat.div_add_mod (C - b + e - 1) e
  have h2 := Nat.mod_lt (C - b + e - 1) he
  obtain ⟨r, hr⟩ : ∃ r, (C - b + e - 1) / e = r := ⟨_, rfl⟩
  rw [hr] at h1 ⊢
  rcases Nat.eq_zero_or_pos r with rfl | hp
  · refine ⟨.inl rfl, ?_⟩
    rw [Nat.mul_zero] at h1
    omega
  · have h3 : (r - 1) * e + e = r * e := by
      obtain ⟨j, rfl⟩ : ∃ j, r = j + 1 := ⟨r - 1, by omega⟩
      rw [Nat.add_sub_cancel, Nat.add_mul, Nat.one_mul]
    rw [Nat.mul_comm] at h1
    exact ⟨.inr (by omega), by omega⟩
theorem mask_spec {C e b c : Nat} (hb : b < e) : (maskC C e b).testBit c = true ↔ c < C ∧ c % e = b :=
  mask_class hb (rounds_ok (by omega)).1 (rounds_ok (by omega)).2
theorem mask_bd {C e b k : Nat} (hC : C ≤ 64) (h : k = 0 ∨ b + (k - 1) * e < C) : maskK e b k < 18446744073709551616 :=
  mask_lt (n := 64) (h.imp id fun h => by omega)
set_option maxRecDepth 100000 in
set_option maxHeartbeats 4000000 in
theorem mask_any (tb C e b : Nat) (snd : Int) (w : World) (hc : w.cell? ⟨tb, 1, none⟩ = some (.int .i64 (C : Int))) (htb : tb < w.heap.size) (hC : C ≤ 64) (he : 0 < e ∧ e ≤ 64) :
    Calls Try.prog 124 #[.pointer (some ⟨tb, 0, none⟩), .agg #[.int .i64 snd, .int .i64 (e : Int)], .int .i64 (b : Int)] w fun e' w' => e' = .returned (.int .u64 ((maskC C e b : Nat) : Int)) ∧ Below w.heap.size w w' := by
  obtain ⟨w1, hw1⟩ : ∃ w1, w.alloc (.cells #[.int .i64 snd, .int .i64 (e : Int)] 98) = w1 := ⟨_, rfl⟩
  have hb1 : Below w.heap.size w w1 := by rw [← hw1]; exact (Below.refl _ _).alloc (Nat.le_refl _) _
  have hs1 : w1.heap.size = w.heap.size + 1 := by rw [← hw1]; simp
  have hx1 : w1.heap[w.heap.size]? = some (.cells #[.int .i64 snd, .int .i64 (e : Int)] 98 (0, 0)) := by rw [← hw1]; exact heap_alloc_new w _
  have p0 := (hb1.cell (p := ⟨tb, 1, none⟩) htb).trans hc
  have p1 := cell_of_row w1 _ 1 _ _ _ hx1
  simp only [List.getElem?_toArray, List.getElem?_cons_succ, List.getElem?_cons_zero] at p1
  have HB1 := Lib.hid hb1
  obtain ⟨he0, he1⟩ := he
  obtain ⟨hr1, hr2⟩ := rounds_ok (C := C) (b := b) he0
  obtain ⟨R, hR⟩ : ∃ R, roundsC C e b = R := ⟨_, rfl⟩
  have HR : Hid (maskC C e b = maskK e b R) := by show maskC C e b = _; unfold maskC; rw [hR]
  rw [hR] at hr1 hr2
  have HR1 := Lib.hid hr1
  have HR2 := Lib.hid hr2
  clear hc htb hb1 hs1 hx1 hR hr1 hr2
  go_enter Try.func124, Try.ntmps124
  go_wp2_with fail
  go_loopw [6, 7] (fun vo vc wr => ∃ k : Nat, k ≤ R ∧ vo = .int .u64 ((maskK e b k : Nat) : Int) ∧ vc = .int .i64 ((b + k * e : Nat) : Int) ∧ wr = w1) (fun _ vc _ => 200 - (intOf vc).toNat)
  case atStart => exact ⟨0, Nat.zero_le _, rfl, by rw [Nat.zero_mul, Nat.add_zero], rfl⟩
  case round =>
    obtain ⟨k, hk, rfl, rfl, rfl⟩ := hrel
    by_cases hlt : b + k * e < C
    · have hkR : k < R := by
        rcases Nat.lt_or_ge k R with h | h
        · exact h
        · obtain rfl : k = R := by omega
          have := HR2.out
          omega
      have HKR := Lib.hid hkR
      have hM : maskK e b k < 18446744073709551616 := mask_bd (C := b + k * e + 1) (by omega) (by
        rcases Nat.eq_zero_or_pos k with h | h
        · exact .inl h
        · right
          have : (k - 1) * e ≤ k * e := Nat.mul_le_mul_right _ (by omega)
          omega)
      have hp64 : (2 : Nat) ^ (b + k * e) < 18446744073709551616 := Nat.lt_of_lt_of_le (Nat.pow_lt_pow_right (by omega) (show b + k * e < 64 by omega)) (by decide)
      have HST : Hid (maskK e b (k + 1) = maskK e b k ||| 2 ^ (b + k * e)) := rfl
      have hor := u64_or_nat (maskK e b k) (2 ^ (b + k * e)) hM hp64
      have HKE : Hid (b + (k + 1) * e = b + k * e + e) := by show _ = _; rw [Nat.add_mul, Nat.one_mul]; omega
      obtain ⟨c, hcc⟩ : ∃ c, b + k * e = c := ⟨_, rfl⟩
      rw [hcc] at hor HST HKE hlt hp64
      have HCC := Lib.hid hcc
      rw [hcc]
      clear hcc hkR hk
      have he2 : ((2 : Int) ^ c) = ((2 ^ c : Nat) : Int) := by rw [Int.natCast_pow]; rfl
      have HE2 := Lib.hid he2
      have h3 : ((2 ^ c : Nat) : Int) < 18446744073709551616 := Int.ofNat_lt.2 hp64
      have hwr : IntKind.u64.wrap (2 ^ c) = 2 ^ c := by
        rw [he2]
        simp only [IntKind.wrap, IntKind.bits, IntKind.signed]
        show ((2 ^ c : Nat) : Int) % 18446744073709551616 = _
        exact Int.emod_eq_of_lt (Int.natCast_nonneg _) h3
      clear he2 h3
      go_wp2_with fail
      refine ⟨⟨k + 1, HKR.out, ?_, ?_, trivial⟩, ?_⟩
      · rw [HST.out, HE2.out, hor]
      · rw [HKE.out]; push_cast; rfl
      · simp [intOf]; omega
    · have hkR : k = R := by
        rcases Nat.lt_or_ge k R with h | h
        · have h1 := HR1.out
          have h2 : k * e ≤ (R - 1) * e := Nat.mul_le_mul_right _ (by omega)
          omega
        · omega
      subst hkR
      have hcc : ¬ ((b + k * e : Nat) : Int) < (C : Int) := by omega
      obtain ⟨c, hc2⟩ : ∃ c, b + k * e = c := ⟨_, rfl⟩
      rw [hc2] at hcc hlt ⊢
      clear hc2
      go_wp2_with fail
      go_ret
      exact ⟨by rw [HR.out]; rfl, HB1.out⟩
end Go.Proofs.Ytlbbhlkbhegegaa

/- Walks: the table in memory; free, put. -/
namespace Go.Proofs.Ytlbbhlkbhegegaa
open Go.RowKit

theorem lt_of_cells {w : World} {b : Nat} {o : Obj} (h : w.heap[b]? = some o) : b < w.heap.size := (Array.getElem?_eq_some_iff.1 h).1
/-- a table: its box, the senders' row, the taken cycles' row -/
structure TbA (W : World) (tb sb kb S C : Nat) (Am : Option Addr) (ml mc c1 c2 : Nat) (snd : Nat → Int) (tk : Nat → Nat) : Prop where
  box : W.heap[tb]? = some (.cells #[.int .i64 (S : Int), .int .i64 (C : Int), .slice Am ml mc, .slice (some ⟨sb, 0, none⟩) S c1, .slice (some ⟨kb, 0, none⟩) S c2] 129 (0, 0))
  sr : OwnF W sb 3 S (fun s => .int .i64 (snd s))
  kr : OwnF W kb 158 S (fun s => .int .u64 ((tk s : Nat) : Int))
section
variable {W W' : World} {tb sb kb S C : Nat} {Am : Option Addr} {ml mc c1 c2 : Nat} {snd : Nat → Int} {tk : Nat → Nat}
theorem TbA.next (h : TbA W tb sb kb S C Am ml mc c1 c2 snd tk) (hb : Below W.heap.size W W') : TbA W' tb sb kb S C Am ml mc c1 c2 snd tk :=
  ⟨(hb.block tb (lt_of_cells h.box)).trans h.box, h.sr.below hb h.sr.lt, h.kr.below hb h.kr.lt⟩
def freeB (C : Nat) (snd : Nat → Int) (tk : Nat → Nat) (sn : Int) (e s b : Nat) : Bool := (decide (snd s < 0) || snd s == sn) && (tk s &&& maskC C e b == 0)
set_option maxRecDepth 100000 in
set_option maxHeartbeats 8000000 in
theorem free_any (sn : Int) (e s b : Nat) (w : World) (h : TbA w tb sb kb S C Am ml mc c1 c2 snd tk) (hs : s < S) (hC : C ≤ 64) (he : 0 < e ∧ e ≤ 64) (htk : ∀ s, s < S → tk s < 18446744073709551616) {r : Bool} (hr : freeB C snd tk sn e s b = r) :
    Calls Try.prog 115 #[.pointer (some ⟨tb, 0, none⟩), .agg #[.int .i64 sn, .int .i64 (e : Int)], .agg #[.int .i64 (s : Int), .int .i64 (b : Int)]] w fun e' w' => e' = .returned (.bool r) ∧ Below w.heap.size w w' := by
  obtain ⟨w1, hw1⟩ : ∃ w1, (w.alloc (.cells #[.int .i64 sn, .int .i64 (e : Int)] 98)).alloc (.cells #[.int .i64 (s : Int), .int .i64 (b : Int)] 96) = w1 := ⟨_, rfl⟩
  have hb1 : Below w.heap.size w w1 := by rw [← hw1]; exact ((Below.refl _ _).alloc (Nat.le_refl _) _).alloc (by simp) _
  have hs1 : w1.heap.size = w.heap.size + 2 := by rw [← hw1]; simp
  have hx1 : w1.heap[w.heap.size]? = some (.cells #[.int .i64 sn, .int .i64 (e : Int)] 98 (0, 0)) := by rw [← hw1]; exact (Below.heap_alloc _ _ _ (by simp)).trans (heap_alloc_new w _)
  have hx2 : w1.heap[w.heap.size + 1]? = some (.cells #[.int .i64 (s : Int), .int .i64 (b : Int)] 96 (0, 0)) := by rw [← hw1]; have := heap_alloc_new (w.alloc (.cells #[.int .i64 sn, .int .i64 (e : Int)] 98)) (.cells #[.int .i64 (s : Int), .int .i64 (b : Int)] 96); rwa [World.size_alloc] at this
  have h1 := h.next hb1
  have hbx := lt_of_cells h1.box
  have m0 : ∀ s' : BW w1.heap.size w1, s'.1.cell? ⟨w.heap.size, 0, none⟩ = some (.int .i64 sn) := BW.cell (B := w1.heap.size) (W := w1) (by omega) (cell_of_row w1 _ 0 _ _ _ hx1)
  have m1 : ∀ s' : BW w1.heap.size w1, s'.1.cell? ⟨w.heap.size, 1, none⟩ = some (.int .i64 (e : Int)) := BW.cell (B := w1.heap.size) (W := w1) (by omega) (cell_of_row w1 _ 1 _ _ _ hx1)
  have m2 : ∀ s' : BW w1.heap.size w1, s'.1.cell? ⟨w.heap.size + 1, 0, none⟩ = some (.int .i64 (s : Int)) := BW.cell (B := w1.heap.size) (W := w1) (by omega) (cell_of_row w1 _ 0 _ _ _ hx2)
  have m3 : ∀ s' : BW w1.heap.size w1, s'.1.cell? ⟨w.heap.size + 1, 1, none⟩ = some (.int .i64 (b : Int)) := BW.cell (B := w1.heap.size) (W := w1) (by omega) (cell_of_row w1 _ 1 _ _ _ hx2)
  have m4 : ∀ s' : BW w1.heap.size w1, s'.1.cell? ⟨tb, 3, none⟩ = some (.slice (some ⟨sb, 0, none⟩) S c1) := BW.cell (B := w1.heap.size) (W := w1) hbx (cell_of_row w1 _ 3 _ _ _ h1.box)
  have m5 : ∀ s' : BW w1.heap.size w1, s'.1.cell? ⟨tb, 4, none⟩ = some (.slice (some ⟨kb, 0, none⟩) S c2) := BW.cell (B := w1.heap.size) (W := w1) hbx (cell_of_row w1 _ 4 _ _ _ h1.box)
  have m6 := BW.cell (B := w1.heap.size) (W := w1) h1.sr.lt (h1.sr.cell hs)
  have m7 := BW.cell (B := w1.heap.size) (W := w1) h1.kr.lt (h1.kr.cell hs)
  have HM : Hid (∀ s' : BW w1.heap.size w1, Calls Try.prog 124 #[.pointer (some ⟨tb, 0, none⟩), .agg #[.int .i64 sn, .int .i64 (e : Int)], .int .i64 (b : Int)] s'.1 fun e' w' => e' = .returned (.int .u64 ((maskC C e b : Nat) : Int)) ∧ Below s'.1.heap.size s'.1 w') := fun s' => mask_any tb C e b sn s'.1 ((s'.2.cell (p := ⟨tb, 1, none⟩) hbx).trans (cell_of_row w1 _ 1 _ _ _ h1.box)) (by have := s'.2.size; omega) hC he
  have hmb : maskC C e b < 18446744073709551616 := mask_bd hC (rounds_ok he.1).1
  have hand := u64_and_nat (tk s) (maskC C e b) (htk s hs) hmb
  have HB1 := Lib.hid hb1
  unfold freeB at hr
  generalize maskC C e b = M at *
  obtain ⟨K, hK⟩ : ∃ K, tk s &&& M = K := ⟨_, rfl⟩
  rw [hK] at hand hr
  generalize tk s = T at *
  generalize snd s = q at *
  have HR := Lib.hid hr
  clear h h1 hbx hx1 hx2 hb1 hK hr htk hmb
  by_cases k1 : q < 0
  · have g1 : decide (q < 0) = true := by simpa using k1
    by_cases k2 : K = 0
    · have g2 : (((K : Nat) : Int) == 0) = true := by simpa using k2
      go_enter Try.func115, Try.ntmps115
      go_wp2_with fail
      (try rw [hw1])
      refine wp_region_below w1.heap.size w1 (Below.refl _ _) (by kernel_rfl) (by kernel_rfl) ?_
      repeat (go_big_quiet_step ((go_at_call 124; exact quiet_below (Nat.le_refl _) (HM.out _))))
      refine wpQuiet_nil ?_
      clear m0 m1 m2 m3 m4 m5 m6 m7 HM
      intro s'
      have hbs := HB1.out.trans (s'.2.mono (by omega))
      generalize s'.1 = w6 at *
      go_wp2_with fail
      go_ret
      exact ⟨by rw [← HR.out]; simp [k1, k2], hbs⟩
    · have g2 : (((K : Nat) : Int) == 0) = false := by simpa using k2
      go_enter Try.func115, Try.ntmps115
      go_wp2_with fail
      (try rw [hw1])
      refine wp_region_below w1.heap.size w1 (Below.refl _ _) (by kernel_rfl) (by kernel_rfl) ?_
      repeat (go_big_quiet_step ((go_at_call 124; exact quiet_below (Nat.le_refl _) (HM.out _))))
      refine wpQuiet_nil ?_
      clear m0 m1 m2 m3 m4 m5 m6 m7 HM
      intro s'
      have hbs := HB1.out.trans (s'.2.mono (by omega))
      generalize s'.1 = w6 at *
      go_wp2_with fail
      go_ret
      exact ⟨by rw [← HR.out]; simp [k2], hbs⟩
  · have g1 : decide (q < 0) = false := by simpa using k1
    by_cases k3 : q = sn
    · have g3 : (q == sn) = true := by simpa using k3
      have K3 := Lib.hid k3
      clear k3
      by_cases k2 : K = 0
      · have g2 : (((K : Nat) : Int) == 0) = true := by simpa using k2
        go_enter Try.func115, Try.ntmps115
        go_wp2_with fail
        (try rw [hw1])
        refine wp_region_below w1.heap.size w1 (Below.refl _ _) (by kernel_rfl) (by kernel_rfl) ?_
        repeat (go_big_quiet_step ((go_at_call 124; exact quiet_below (Nat.le_refl _) (HM.out _))))
        refine wpQuiet_nil ?_
        clear m0 m1 m2 m3 m4 m5 m6 m7 HM
        intro s'
        have hbs := HB1.out.trans (s'.2.mono (by omega))
        generalize s'.1 = w6 at *
        go_wp2_with fail
        go_ret
        exact ⟨by rw [← HR.out]; simp [K3.out, k2], hbs⟩
      · have g2 : (((K : Nat) : Int) == 0) = false := by simpa using k2
        go_enter Try.func115, Try.ntmps115
        go_wp2_with fail
        (try rw [hw1])
        refine wp_region_below w1.heap.size w1 (Below.refl _ _) (by kernel_rfl) (by kernel_rfl) ?_
        repeat (go_big_quiet_step ((go_at_call 124; exact quiet_below (Nat.le_refl _) (HM.out _))))
        refine wpQuiet_nil ?_
        clear m0 m1 m2 m3 m4 m5 m6 m7 HM
        intro s'
        have hbs := HB1.out.trans (s'.2.mono (by omega))
        generalize s'.1 = w6 at *
        go_wp2_with fail
        go_ret
        exact ⟨by rw [← HR.out]; simp [k2], hbs⟩
    · have g3 : (q == sn) = false := by simpa using k3
      go_enter Try.func115, Try.ntmps115
      go_wp2_with fail
      (try rw [hw1])
      refine wp_region_below w1.heap.size w1 (Below.refl _ _) (by kernel_rfl) (by kernel_rfl) ?_
      repeat (go_big_quiet_step (fail))
      refine wpQuiet_nil ?_
      clear m0 m1 m2 m3 m4 m5 m6 m7 HM
      intro s'
      have hbs := HB1.out.trans (s'.2.mono (by omega))
      generalize s'.1 = w6 at *
      go_wp2_with fail
      go_ret
      exact ⟨by rw [← HR.out]; rw [g1, g3]; rfl, hbs⟩
end
end Go.Proofs.Ytlbbhlkbhegegaa

/- Walks: put. -/
namespace Go.Proofs.Ytlbbhlkbhegegaa
open Go.RowKit

set_option maxRecDepth 100000 in
theorem step_c124 {ops : Array Oper} {o : Oper} {a : Act} {Q' : Act → World → Prop} {Q : Exit → Act → World → Prop} {E : Prop} (w : World) (hg : o.guard = none) (x y z : Operand) (ts : Array TypeId) (ho : o.op = .call { callee := .value (.func 124), args := #[x, y, z], argTypes := ts }) (u v t r : Value) (R : World → Prop)
    (hx : a.eval x = u) (hy : a.eval y = v) (hz : a.eval z = t) (hC : Calls Try.prog 124 #[u, v, t] w fun e w' => e = .returned r ∧ R w')
    (hK : ∀ w', R w' → Q' (a.put o.dst r) w') : if Region.wanted o (yielded ops a.tmps) = true then Oper.wp Try.prog o a w Q' Q else E := by
  rw [if_pos (by simp [Region.wanted, hg])]
  have hf : a.eval (.func 124) = .func (.func 124) #[] #[] := rfl
  unfold Oper.wp execOp
  simp only [ho, resolve, invoke, Sem.run_bind, List.map_toArray, List.map_cons, List.map_nil, hx, hy, hz, hf]
  simp [go_sem]
  refine hC.mono ?_
  rintro e w2 ⟨rfl, hR⟩
  exact hK w2 hR
section
variable {tb sb kb S C : Nat} {Am : Option Addr} {ml mc c1 c2 : Nat} {snd : Nat → Int} {tk : Nat → Nat}
theorem types_ne {W : World} {a b : Nat} {t t' : TypeId} {cs cs' : Array Value} (h : W.heap[a]? = some (.cells cs t (0, 0))) (h' : W.heap[b]? = some (.cells cs' t' (0, 0))) (hn : t ≠ t') : a ≠ b := by
  rintro rfl
  rw [h] at h'
  injection h' with h'
  injection h' with _ h'
  exact hn h'
theorem TbA.setS {W : World} (h : TbA W tb sb kb S C Am ml mc c1 c2 snd tk) (s : Nat) (sn : Int) : TbA (W.setCell ⟨sb, s, none⟩ (.int .i64 sn)) tb sb kb S C Am ml mc c1 c2 (fun i => if i = s then sn else snd i) tk := by
  obtain ⟨C1, hC1, _⟩ := id h.sr
  obtain ⟨C2, hC2, _⟩ := id h.kr
  have n1 : tb ≠ sb := types_ne h.box hC1 (by decide)
  have n2 : kb ≠ sb := types_ne hC2 hC1 (by decide)
  refine ⟨(Below.heap_setCell W ⟨sb, s, none⟩ _ tb n1).trans h.box, (h.sr.set s _).congr fun j _ => ?_, h.kr.far n2 _⟩
  (try dsimp only)
  split <;> rfl
theorem TbA.setK {W : World} (h : TbA W tb sb kb S C Am ml mc c1 c2 snd tk) (s m : Nat) : TbA (W.setCell ⟨kb, s, none⟩ (.int .u64 ((m : Nat) : Int))) tb sb kb S C Am ml mc c1 c2 snd (fun i => if i = s then m else tk i) := by
  obtain ⟨C1, hC1, _⟩ := id h.sr
  obtain ⟨C2, hC2, _⟩ := id h.kr
  have n1 : tb ≠ kb := types_ne h.box hC2 (by decide)
  have n2 : sb ≠ kb := types_ne hC1 hC2 (by decide)
  refine ⟨(Below.heap_setCell W ⟨kb, s, none⟩ _ tb n1).trans h.box, h.sr.far n2 _, (h.kr.set s _).congr fun j _ => ?_⟩
  (try dsimp only)
  split <;> rfl
set_option maxRecDepth 100000 in
set_option maxHeartbeats 8000000 in
theorem put_any (n0 : Nat) (sn : Int) (e s b : Nat) (w : World) (h : TbA w tb sb kb S C Am ml mc c1 c2 snd tk) (hn : n0 ≤ sb ∧ n0 ≤ kb) (hnw : n0 ≤ w.heap.size) (hs : s < S) (hC : C ≤ 64) (he : 0 < e ∧ e ≤ 64) (htk : ∀ s, s < S → tk s < 18446744073709551616) :
    Calls Try.prog 117 #[.pointer (some ⟨tb, 0, none⟩), .agg #[.int .i64 sn, .int .i64 (e : Int)], .agg #[.int .i64 (s : Int), .int .i64 (b : Int)]] w fun e' w' => e' = .returned (.tuple #[]) ∧ TbA w' tb sb kb S C Am ml mc c1 c2 (fun i => if i = s then sn else snd i) (fun i => if i = s then tk i ||| maskC C e b else tk i) ∧ Below n0 w w' := by
  obtain ⟨w1, hw1⟩ : ∃ w1, (w.alloc (.cells #[.int .i64 sn, .int .i64 (e : Int)] 98)).alloc (.cells #[.int .i64 (s : Int), .int .i64 (b : Int)] 96) = w1 := ⟨_, rfl⟩
  have hb1 : Below w.heap.size w w1 := by rw [← hw1]; exact ((Below.refl _ _).alloc (Nat.le_refl _) _).alloc (by simp) _
  have hx1 : w1.heap[w.heap.size]? = some (.cells #[.int .i64 sn, .int .i64 (e : Int)] 98 (0, 0)) := by rw [← hw1]; exact (Below.heap_alloc _ _ _ (by simp)).trans (heap_alloc_new w _)
  have hx2 : w1.heap[w.heap.size + 1]? = some (.cells #[.int .i64 (s : Int), .int .i64 (b : Int)] 96 (0, 0)) := by rw [← hw1]; have := heap_alloc_new (w.alloc (.cells #[.int .i64 sn, .int .i64 (e : Int)] 98)) (.cells #[.int .i64 (s : Int), .int .i64 (b : Int)] 96); rwa [World.size_alloc] at this
  have hs1 : w1.heap.size = w.heap.size + 2 := by rw [← hw1]; simp
  have HS1 := Lib.hid hs1
  have h1 := h.next hb1
  have m0 : w1.cell? ⟨w.heap.size, 0, none⟩ = some (.int .i64 sn) := cell_of_row w1 _ 0 _ _ _ hx1
  have m2 : w1.cell? ⟨w.heap.size + 1, 0, none⟩ = some (.int .i64 (s : Int)) := cell_of_row w1 _ 0 _ _ _ hx2
  have m4 : w1.cell? ⟨tb, 3, none⟩ = some (.slice (some ⟨sb, 0, none⟩) S c1) := cell_of_row w1 _ 3 _ _ _ h1.box
  have m6 := h1.sr.cell hs
  have f6 := h1.sr.frozen s
  have H1 := Lib.hid h1
  have HSB := Lib.hid h.sr.lt
  have HB1 := Lib.hid hb1
  have HX1 := Lib.hid hx1
  have HX2 := Lib.hid hx2
  clear h1 hb1 hx1 hx2 hs1
  go_enter Try.func117, Try.ntmps117
  go_wp2_with fail
  (try rw [hw1])
  clear hw1
  refine wp_region_quiet_tail 8 (by kernel_rfl) (by kernel_rfl) ?_
  simp only [List.take_succ_cons, List.take_zero, List.drop_succ_cons, List.drop_zero]
  repeat (go_big_quiet_step (fail))
  refine wpQuiet_nil ?_
  go_upto_region 2 with fail
  have hsl := H1.out.sr.lt
  have hbw : w.heap.size ≤ w1.heap.size := HB1.out.size
  obtain ⟨w2, hw2⟩ : ∃ w2, (w1.setCell ⟨sb, s, none⟩ (.int .i64 sn)).drew = w2 := ⟨_, rfl⟩
  have HT2 : Hid (TbA w2 tb sb kb S C Am ml mc c1 c2 (fun i => if i = s then sn else snd i) tk) := by
    rw [← hw2]
    exact ⟨(H1.out.setS s sn).box, (H1.out.setS s sn).sr, (H1.out.setS s sn).kr⟩
  have HB2 : Hid (Below n0 w w2) := by
    rw [← hw2]
    exact ((HB1.out.mono hnw).setCell (p := ⟨sb, s, none⟩) hn.1 _).drew
  have hsbw : sb < w.heap.size := HSB.out
  have HX1' : Hid (w2.heap[w.heap.size]? = some (.cells #[.int .i64 sn, .int .i64 (e : Int)] 98 (0, 0))) := by
    rw [← hw2]
    exact (Below.heap_setCell w1 ⟨sb, s, none⟩ _ w.heap.size (by show w.heap.size ≠ sb; omega)).trans HX1.out
  have HX2' : Hid (w2.heap[w.heap.size + 1]? = some (.cells #[.int .i64 (s : Int), .int .i64 (b : Int)] 96 (0, 0))) := by
    rw [← hw2]
    exact (Below.heap_setCell w1 ⟨sb, s, none⟩ _ (w.heap.size + 1) (by show w.heap.size + 1 ≠ sb; omega)).trans HX2.out
  (try rw [hw2])
  clear hw2 m0 m2 m4 m6 f6
  have HCE : Hid (∀ W, Below w2.heap.size w2 W → (W.cell? ⟨w.heap.size, 0, none⟩ = some (.int .i64 sn) ∧ W.cell? ⟨w.heap.size, 1, none⟩ = some (.int .i64 (e : Int))) ∧ (W.cell? ⟨w.heap.size + 1, 0, none⟩ = some (.int .i64 (s : Int)) ∧ W.cell? ⟨w.heap.size + 1, 1, none⟩ = some (.int .i64 (b : Int))) ∧ W.cell? ⟨tb, 4, none⟩ = some (.slice (some ⟨kb, 0, none⟩) S c2) ∧ W.cell? ⟨kb, s, none⟩ = some (.int .u64 ((tk s : Nat) : Int))) := fun W hW => by
    have k1 := (hW.block _ (lt_of_cells HX1'.out)).trans HX1'.out
    have k2 := (hW.block _ (lt_of_cells HX2'.out)).trans HX2'.out
    have k3 := HT2.out.next hW
    exact ⟨⟨cell_of_row W _ 0 _ _ _ k1, cell_of_row W _ 1 _ _ _ k1⟩, ⟨cell_of_row W _ 0 _ _ _ k2, cell_of_row W _ 1 _ _ _ k2⟩, cell_of_row W _ 4 _ _ _ k3.box, k3.kr.cell hs⟩
  obtain ⟨⟨a0, a1⟩, ⟨a2, a3⟩, a4, a5⟩ := HCE.out w2 (Below.refl _ _)
  have HM : Hid (Calls Try.prog 124 #[.pointer (some ⟨tb, 0, none⟩), .agg #[.int .i64 sn, .int .i64 (e : Int)], .int .i64 (b : Int)] w2.drew fun e' w' => e' = .returned (.int .u64 ((maskC C e b : Nat) : Int)) ∧ Below w2.drew.heap.size w2.drew w') := mask_any tb C e b sn w2.drew (cell_of_row w2 _ 1 _ _ _ HT2.out.box) (lt_of_cells HT2.out.box) hC he
  have hor := u64_or_nat (tk s) (maskC C e b) (htk s hs) (mask_bd hC (rounds_ok he.1).1)
  obtain ⟨M, hM⟩ : ∃ M, maskC C e b = M := ⟨_, rfl⟩
  have HMM := Lib.hid hM
  rw [hM] at HM hor
  clear hM
  go_region_law (first
    | (refine step_c124 _ (by rfl) _ _ _ _ (by rfl) _ _ _ _ _ (by rfl) (by rfl) (by rfl) HM.out ?_; intro w3 hb3; have HB3 : Hid (Below w2.heap.size w2 w3) := (Below.refl w2.heap.size w2).drew.trans hb3; obtain ⟨⟨a0, a1⟩, ⟨a2, a3⟩, a4, a5⟩ := HCE.out w3 HB3.out; have f5 := (HT2.out.next HB3.out).kr.frozen s; clear hb3)
    | fail)
  all_goals
    have HK : Hid (TbA (w3.setCell ⟨kb, s, none⟩ (.int .u64 (((tk s ||| M : Nat)) : Int))) tb sb kb S C Am ml mc c1 c2 (fun i => if i = s then sn else snd i) (fun i => if i = s then tk i ||| M else tk i)) := by
      have h3 := (HT2.out.next HB3.out).setK s (tk s ||| M)
      have e3 : (fun i => if i = s then tk s ||| M else tk i) = (fun i => if i = s then tk i ||| M else tk i) := by
        funext i
        split
        · rename_i e; rw [e]
        · rfl
      rw [e3] at h3
      exact h3
    have HBF : Hid (Below n0 w (w3.setCell ⟨kb, s, none⟩ (.int .u64 (((tk s ||| M : Nat)) : Int)))) := (HB2.out.trans (HB3.out.mono (by have := HB2.out.size; omega))).setCell (p := ⟨kb, s, none⟩) hn.2 _
    go_wp2_with fail
    go_end0
    exact ⟨rfl, by rw [HMM.out]; exact HK.out, HBF.out⟩
end
end Go.Proofs.Ytlbbhlkbhegegaa

/- Walks: slices.Clone of a row of the call's own: ints, uint64s; the table copied. Printed by gen_td4.py. -/
namespace Go.Proofs.Ytlbbhlkbhegegaa
open Go.RowKit

theorem info_u64 : (Try.prog.info? 158).map (fun i => (i.zero, i.size, i.bytes)) = some (some (.int .u64 0), 1, 8) := by kernel_rfl
theorem under_u64s : Try.prog.underlying 127 = some (.slice 158) := by kernel_rfl
set_option maxRecDepth 100000 in
theorem clone83_any (g S cap : Nat) (f : Nat → Int) (w : World) (h : OwnF w g 3 S (fun j => .int .i64 (f j))) (hS : 1 ≤ S ∧ S ≤ 1000) :
    Calls Try.prog 83 #[.slice (some ⟨g, 0, none⟩) S cap] w fun e' w' => ∃ g' c', e' = .returned (.slice (some ⟨g', 0, none⟩) S c') ∧ w.heap.size ≤ g' ∧ OwnF w' g' 3 S (fun j => .int .i64 (f j)) ∧ Below w.heap.size w w' := by
  have hnl := fun (w : World) (a : Option Addr) (l c : Nat) => Lib.run_eql_slice_nil (P := Try.prog) w 28 3 a l c 0 0 under_ints
  obtain ⟨i0, hi, hz0, hz1, hz2⟩ := info_parts info_int
  have hO : (w.alloc (.cells #[] 3)).ownsRow w.heap.size 3 1 (.slice (some ⟨w.heap.size, 0, none⟩) 0 0) 0 [] := ⟨rfl, .inr ⟨w.heap.size, 0, #[], rfl, Nat.le_refl _, heap_alloc_new w _, Nat.le_refl _, by unfold maxLen; omega, rfl, rfl⟩⟩
  have hc : ∀ j u, ((List.range S).map fun j => Value.int .i64 (f j))[j]? = some u → (w.alloc (.cells #[] 3)).cell? ((⟨g, 0, none⟩ : Addr).add j) = some u := fun j u hj => by
    rw [add_none0, Nat.zero_add]
    rcases Nat.lt_or_ge j S with h1 | h1
    · rw [List.getElem?_map, List.getElem?_range h1] at hj
      rw [← hj, (h.alloc _).cell h1]
      rfl
    · rw [List.getElem?_eq_none (by simpa using h1)] at hj
      cases hj
  have h1c : ∀ u ∈ (List.range S).map (fun j => Value.int .i64 (f j)), u.oneCell' = true := fun u hu => by
    obtain ⟨p, _, rfl⟩ := List.mem_map.1 hu
    rfl
  have HO := Lib.hid hO
  have HC := Lib.hid hc
  have H1 := Lib.hid h1c
  obtain ⟨hS1, hS2⟩ := hS
  clear hO hc h1c h
  go_enter Try.func83, Try.ntmps83
  go_wp2_with (at_builtin; refine wpList_append_own _ rfl _ _ 28 rfl w.heap.size 3 i0 (.int .i64 0) 1 8 under_ints hi hz0 hz1 hz2 rfl (by decide) _ 0 [] rfl HO.out ⟨g, 0, none⟩ S cap _ rfl (by simp) HC.out H1.out (by unfold maxLen; omega) (by omega) (by simp) (fun v6 w6 ho6 hg6 _ => ?_); have HO6 := Lib.hid ho6; have HG6 := Lib.hid hg6; clear ho6 hg6)
  go_ret
  have ho := HO6.out
  rw [Nat.zero_add, List.nil_append] at ho
  obtain ⟨_, hv⟩ := id ho
  rcases hv with ⟨_, h0⟩ | ⟨g', c', cur, rfl, hb, _, _⟩
  · omega
  · refine ⟨g', c', rfl, hb, (OwnF.of_row ho rfl).congr fun j hj => ?_, ((Below.refl _ _).alloc (Nat.le_refl _) _).grown HG6.out (by simp) (fun k hk => (own_block_lt HO.out k hk).1)⟩
    rw [List.getD_eq_getElem?_getD, List.getElem?_map, List.getElem?_range hj]
    rfl
set_option maxRecDepth 100000 in
theorem clone125_any (g S cap : Nat) (f : Nat → Int) (w : World) (h : OwnF w g 158 S (fun j => .int .u64 (f j))) (hS : 1 ≤ S ∧ S ≤ 1000) :
    Calls Try.prog 125 #[.slice (some ⟨g, 0, none⟩) S cap] w fun e' w' => ∃ g' c', e' = .returned (.slice (some ⟨g', 0, none⟩) S c') ∧ w.heap.size ≤ g' ∧ OwnF w' g' 158 S (fun j => .int .u64 (f j)) ∧ Below w.heap.size w w' := by
  have hnl := fun (w : World) (a : Option Addr) (l c : Nat) => Lib.run_eql_slice_nil (P := Try.prog) w 127 158 a l c 0 0 under_u64s
  obtain ⟨i0, hi, hz0, hz1, hz2⟩ := info_parts info_u64
  have hO : (w.alloc (.cells #[] 158)).ownsRow w.heap.size 158 1 (.slice (some ⟨w.heap.size, 0, none⟩) 0 0) 0 [] := ⟨rfl, .inr ⟨w.heap.size, 0, #[], rfl, Nat.le_refl _, heap_alloc_new w _, Nat.le_refl _, by unfold maxLen; omega, rfl, rfl⟩⟩
  have hc : ∀ j u, ((List.range S).map fun j => Value.int .u64 (f j))[j]? = some u → (w.alloc (.cells #[] 158)).cell? ((⟨g, 0, none⟩ : Addr).add j) = some u := fun j u hj => by
    rw [add_none0, Nat.zero_add]
    rcases Nat.lt_or_ge j S with h1 | h1
    · rw [List.getElem?_map, List.getElem?_range h1] at hj
      rw [← hj, (h.alloc _).cell h1]
      rfl
    · rw [List.getElem?_eq_none (by simpa using h1)] at hj
      cases hj
  have h1c : ∀ u ∈ (List.range S).map (fun j => Value.int .u64 (f j)), u.oneCell' = true := fun u hu => by
    obtain ⟨p, _, rfl⟩ := List.mem_map.1 hu
    rfl
  have HO := Lib.hid hO
  have HC := Lib.hid hc
  have H1 := Lib.hid h1c
  obtain ⟨hS1, hS2⟩ := hS
  clear hO hc h1c h
  go_enter Try.func125, Try.ntmps125
  go_wp2_with (at_builtin; refine wpList_append_own _ rfl _ _ 127 rfl w.heap.size 158 i0 (.int .u64 0) 1 8 under_u64s hi hz0 hz1 hz2 rfl (by decide) _ 0 [] rfl HO.out ⟨g, 0, none⟩ S cap _ rfl (by simp) HC.out H1.out (by unfold maxLen; omega) (by omega) (by simp) (fun v6 w6 ho6 hg6 _ => ?_); have HO6 := Lib.hid ho6; have HG6 := Lib.hid hg6; clear ho6 hg6)
  go_ret
  have ho := HO6.out
  rw [Nat.zero_add, List.nil_append] at ho
  obtain ⟨_, hv⟩ := id ho
  rcases hv with ⟨_, h0⟩ | ⟨g', c', cur, rfl, hb, _, _⟩
  · omega
  · refine ⟨g', c', rfl, hb, (OwnF.of_row ho rfl).congr fun j hj => ?_, ((Below.refl _ _).alloc (Nat.le_refl _) _).grown HG6.out (by simp) (fun k hk => (own_block_lt HO.out k hk).1)⟩
    rw [List.getD_eq_getElem?_getD, List.getElem?_map, List.getElem?_range hj]
    rfl
section
variable {tb sb kb S C : Nat} {Am : Option Addr} {ml mc c1 c2 : Nat} {snd : Nat → Int} {tk : Nat → Nat}
set_option maxRecDepth 100000 in
set_option maxHeartbeats 4000000 in
theorem copied_any (w : World) (h : TbA w tb sb kb S C Am ml mc c1 c2 snd tk) (hS : 1 ≤ S ∧ S ≤ 1000) :
    Calls Try.prog 116 #[.pointer (some ⟨tb, 0, none⟩)] w fun e' w' => ∃ tb' sb' kb' c1' c2', e' = .returned (.pointer (some ⟨tb', 0, none⟩)) ∧ (w.heap.size ≤ sb' ∧ w.heap.size ≤ kb' ∧ w.heap.size ≤ tb') ∧ TbA w' tb' sb' kb' S C Am ml mc c1' c2' snd tk ∧ Below w.heap.size w w' := by
  have HX : Hid (∀ W, Below w.heap.size w W → W.cell? ⟨tb, 0, none⟩ = some (.int .i64 (S : Int)) ∧ W.cell? ⟨tb, 1, none⟩ = some (.int .i64 (C : Int)) ∧ W.cell? ⟨tb, 2, none⟩ = some (.slice Am ml mc) ∧ W.cell? ⟨tb, 3, none⟩ = some (.slice (some ⟨sb, 0, none⟩) S c1) ∧ W.cell? ⟨tb, 4, none⟩ = some (.slice (some ⟨kb, 0, none⟩) S c2)) := fun W hW => by
    have k := (h.next hW).box
    exact ⟨cell_of_row W _ 0 _ _ _ k, cell_of_row W _ 1 _ _ _ k, cell_of_row W _ 2 _ _ _ k, cell_of_row W _ 3 _ _ _ k, cell_of_row W _ 4 _ _ _ k⟩
  have H83 : Hid (∀ W, Below w.heap.size w W → Calls Try.prog 83 #[.slice (some ⟨sb, 0, none⟩) S c1] W fun e' w' => ∃ g' c', e' = .returned (.slice (some ⟨g', 0, none⟩) S c') ∧ W.heap.size ≤ g' ∧ OwnF w' g' 3 S (fun j => .int .i64 (snd j)) ∧ Below W.heap.size W w') := fun W hW => clone83_any sb S c1 snd W (h.next hW).sr hS
  have H125 : Hid (∀ W, Below w.heap.size w W → Calls Try.prog 125 #[.slice (some ⟨kb, 0, none⟩) S c2] W fun e' w' => ∃ g' c', e' = .returned (.slice (some ⟨g', 0, none⟩) S c') ∧ W.heap.size ≤ g' ∧ OwnF w' g' 158 S (fun j => .int .u64 ((tk j : Nat) : Int)) ∧ Below W.heap.size W w') := fun W hW => clone125_any kb S c2 (fun j => ((tk j : Nat) : Int)) W (h.next hW).kr hS
  obtain ⟨p0, p1, p2, p3, p4⟩ := HX.out w (Below.refl _ _)
  have hB0 : Below w.heap.size w w.drew := (Below.refl _ _).drew
  clear h
  go_enter Try.func116, Try.ntmps116
  go_upto_region 1 with fail
  go_region_held3 (fun W => W.cell? ⟨tb, 0, none⟩ = some (.int .i64 (S : Int)) ∧ W.cell? ⟨tb, 1, none⟩ = some (.int .i64 (C : Int)) ∧ W.cell? ⟨tb, 2, none⟩ = some (.slice Am ml mc) ∧ W.cell? ⟨tb, 3, none⟩ = some (.slice (some ⟨sb, 0, none⟩) S c1) ∧ W.cell? ⟨tb, 4, none⟩ = some (.slice (some ⟨kb, 0, none⟩) S c2)) (first | exact HX.out _ hB0 | exact HX.out _ hB5 | exact HX.out _ hB6 | exact HX.out _ (hB6.alloc hB6.size _) | fail) ((first
    | (go_at_call 83; (with_reducible refine (H83.out _ hB0).mono ?_); rintro e' w5 ⟨g5, c5, rfl, hg5, ho5, hb5⟩; have HO5 := Lib.hid ho5; have HG5 := Lib.hid hg5; have hB5 : Below w.heap.size w w5 := hB0.trans hb5; clear ho5 hg5 hb5)
    | (go_at_call 125; (with_reducible refine (H125.out _ hB5).mono ?_); rintro e' w6 ⟨g6, c6, rfl, hg6, ho6, hb6⟩; have HO6 := Lib.hid ho6; have HG6 := Lib.hid hg6; have HO56 := Lib.hid (HO5.out.below hb6 HO5.out.lt); have hB6 : Below w.heap.size w w6 := hB5.trans (hb6.mono hB5.size); clear ho6 hg6 hb6)
    | fail))
  go_wp2_with fail
  go_ret
  have h5 := HG5.out
  have h6 := HG6.out
  have s5 := hB5.size
  have s6 := hB6.size
  exact ⟨w6.heap.size, g5, g6, c5, c6, rfl, ⟨h5, by omega, s6⟩, ⟨heap_alloc_new w6 _, HO56.out.alloc _, HO6.out.alloc _⟩, hB6.alloc s6 _⟩
end
end Go.Proofs.Ytlbbhlkbhegegaa

/- Walks: place. -/
namespace Go.Proofs.Ytlbbhlkbhegegaa
open Go.RowKit

section
variable {tb sb kb S C : Nat} {Am : Option Addr} {ml mc c1 c2 : Nat} {snd : Nat → Int} {tk : Nat → Nat}
/-- no place is free in the slots of an owner, up to some slot -/
def NoneAt (C : Nat) (snd : Nat → Int) (tk : Nat → Nat) (sn : Int) (e : Nat) (ow : Int) (k : Nat) : Prop := ∀ s, s < k → snd s = ow → ∀ b, b < e → freeB C snd tk sn e s b = false
/-- what place leaves -/
def PlaceP (n0 tb sb kb S C : Nat) (Am : Option Addr) (ml mc c1 c2 : Nat) (snd : Nat → Int) (tk : Nat → Nat) (sn : Int) (e : Nat) (w : World) (e' : Ending) (w' : World) : Prop :=
  Below n0 w w' ∧ ((∃ s b, (s < S ∧ b < e) ∧ freeB C snd tk sn e s b = true ∧ (snd s = sn ∨ NoneAt C snd tk sn e sn S) ∧ e' = .returned (.bool true) ∧ TbA w' tb sb kb S C Am ml mc c1 c2 (fun i => if i = s then sn else snd i) (fun i => if i = s then tk i ||| maskC C e b else tk i)) ∨
    (NoneAt C snd tk sn e sn S ∧ NoneAt C snd tk sn e (-1) S ∧ e' = .returned (.bool false) ∧ TbA w' tb sb kb S C Am ml mc c1 c2 snd tk))
theorem NoneAt.snoc {C : Nat} {snd : Nat → Int} {tk : Nat → Nat} {sn : Int} {e : Nat} {ow : Int} {k : Nat} (h : NoneAt C snd tk sn e ow k) (h2 : snd k = ow → ∀ b, b < e → freeB C snd tk sn e k b = false) : NoneAt C snd tk sn e ow (k + 1) := fun s hs => by
  rcases Nat.lt_or_ge s k with h3 | h3
  · exact h s h3
  · obtain rfl : s = k := by omega
    exact h2
set_option maxRecDepth 100000 in
set_option maxHeartbeats 8000000 in
theorem place_any (n0 : Nat) (sn : Int) (e : Nat) (w : World) (h : TbA w tb sb kb S C Am ml mc c1 c2 snd tk) (hn : n0 ≤ sb ∧ n0 ≤ kb) (hnw : n0 ≤ w.heap.size) (hS : S ≤ 30) (hC : C ≤ 64) (he : 0 < e ∧ e ≤ 64) (htk : ∀ s, s < S → tk s < 18446744073709551616) :
    Calls Try.prog 129 #[.pointer (some ⟨tb, 0, none⟩), .agg #[.int .i64 sn, .int .i64 (e : Int)]] w (PlaceP n0 tb sb kb S C Am ml mc c1 c2 snd tk sn e w) := by
  obtain ⟨w1, hw1⟩ : ∃ w1, (w.alloc (.cells #[.int .i64 sn, .int .i64 (e : Int)] 98)).alloc (.cells #[.int .i64 sn, .int .i64 (-1)] 3) = w1 := ⟨_, rfl⟩
  have hb1 : Below w.heap.size w w1 := by rw [← hw1]; exact ((Below.refl _ _).alloc (Nat.le_refl _) _).alloc (by simp) _
  have hs1 : w1.heap.size = w.heap.size + 2 := by rw [← hw1]; simp
  have hx1 : w1.heap[w.heap.size]? = some (.cells #[.int .i64 sn, .int .i64 (e : Int)] 98 (0, 0)) := by rw [← hw1]; exact (Below.heap_alloc _ _ _ (by simp)).trans (heap_alloc_new w _)
  have hx2 : w1.heap[w.heap.size + 1]? = some (.cells #[.int .i64 sn, .int .i64 (-1)] 3 (0, 0)) := by rw [← hw1]; have := heap_alloc_new (w.alloc (.cells #[.int .i64 sn, .int .i64 (e : Int)] 98)) (.cells #[.int .i64 sn, .int .i64 (-1)] 3); rwa [World.size_alloc] at this
  have h1 := h.next hb1
  have HX : Hid (∀ W, Below w1.heap.size w1 W → (W.cell? ⟨w.heap.size, 0, none⟩ = some (.int .i64 sn) ∧ W.cell? ⟨w.heap.size, 1, none⟩ = some (.int .i64 (e : Int))) ∧ (W.cell? ⟨w.heap.size + 1, 0, none⟩ = some (.int .i64 sn) ∧ W.cell? ⟨w.heap.size + 1, 1, none⟩ = some (.int .i64 (-1))) ∧ W.cell? ⟨tb, 3, none⟩ = some (.slice (some ⟨sb, 0, none⟩) S c1)) := fun W hW => by
    have k1 := (hW.block w.heap.size (by omega)).trans hx1
    have k2 := (hW.block (w.heap.size + 1) (by omega)).trans hx2
    have k3 := (h1.next hW).box
    exact ⟨⟨cell_of_row W _ 0 _ _ _ k1, cell_of_row W _ 1 _ _ _ k1⟩, ⟨cell_of_row W _ 0 _ _ _ k2, cell_of_row W _ 1 _ _ _ k2⟩, cell_of_row W _ 3 _ _ _ k3⟩
  have HT : Hid (∀ W, Below w1.heap.size w1 W → TbA W tb sb kb S C Am ml mc c1 c2 snd tk) := fun W hW => h1.next hW
  have HSN : Hid (∀ (W : World) (s : Nat), Below w1.heap.size w1 W → s < S → W.cell? ⟨sb, s, none⟩ = some (.int .i64 (snd s))) := fun W s hW hs => (h1.next hW).sr.cell hs
  have HFR : Hid (∀ (s b : Nat) (W : World) (r : Bool), freeB C snd tk sn e s b = r → Below w1.heap.size w1 W → s < S → Calls Try.prog 115 #[.pointer (some ⟨tb, 0, none⟩), .agg #[.int .i64 sn, .int .i64 (e : Int)], .agg #[.int .i64 (s : Int), .int .i64 (b : Int)]] W fun e' w' => e' = .returned (.bool r) ∧ Below W.heap.size W w') := fun s b W r hr hW hs => free_any sn e s b W (h1.next hW) hs hC he htk hr
  have HBW : Hid (∀ W, Below w1.heap.size w1 W → Below n0 w W ∧ n0 ≤ W.heap.size) := fun W hW => ⟨(hb1.mono hnw).trans (hW.mono (by omega)), by have := hW.size; omega⟩
  have HPUT : Hid (∀ (s b : Nat) (W : World), Below w1.heap.size w1 W → s < S → Calls Try.prog 117 #[.pointer (some ⟨tb, 0, none⟩), .agg #[.int .i64 sn, .int .i64 (e : Int)], .agg #[.int .i64 (s : Int), .int .i64 (b : Int)]] W fun e' w' => e' = .returned (.tuple #[]) ∧ TbA w' tb sb kb S C Am ml mc c1 c2 (fun i => if i = s then sn else snd i) (fun i => if i = s then tk i ||| maskC C e b else tk i) ∧ Below n0 W w') := fun s b W hW hs => put_any n0 sn e s b W (h1.next hW) hn (HBW.out W hW).2 hs hC he htk
  have HB0 : Hid (Below w1.heap.size w1 w1) := Below.refl _ _
  obtain ⟨⟨a0, a1⟩, ⟨a2, a3⟩, a4⟩ := HX.out w1 (Below.refl _ _)
  obtain ⟨he0, he1⟩ := he
  clear h h1 hb1 hx1 hx2 htk
  go_enter Try.func129, Try.ntmps129
  go_wp2_with fail
  (try rw [hw1])
  clear a0 a1 a2 a3 a4
  go_loopw [4, 15] (fun v4 vi wr => v4 = .bool false ∧ ∃ i : Nat, i ≤ 2 ∧ vi = .int .i64 i ∧ Hid ((1 ≤ i → NoneAt C snd tk sn e sn S) ∧ (2 ≤ i → NoneAt C snd tk sn e (-1) S)) ∧ Hid (Below w1.heap.size w1 wr)) (fun _ vi _ => 2 - (intOf vi).toNat)
  case atStart => exact ⟨rfl, 0, by omega, rfl, ⟨fun h => by omega, fun h => by omega⟩, HB0.out⟩
  case round =>
    clear HB0
    obtain ⟨rfl, i, hi, rfl, HN, HB⟩ := hrel
    rename World => wr
    obtain ⟨⟨a0, a1⟩, ⟨a2, a3⟩, a4⟩ := HX.out wr HB.out
    by_cases hlt : i < 2
    · have hd2 : decide ((i : Int) < 2) = true := decide_eq_true (by omega)
      obtain ⟨ow, ho⟩ : ∃ ow : Int, ow = if i = 0 then sn else -1 := ⟨_, rfl⟩
      have a5 : wr.cell? ⟨w.heap.size + 1, i, none⟩ = some (.int .i64 ow) := by
        rcases Nat.lt_or_ge 0 i with h | h
        · obtain rfl : i = 1 := by omega
          rw [ho]; exact a3
        · obtain rfl : i = 0 := by omega
          rw [ho]; exact a2
      have HO := Lib.hid ho
      clear a2 a3 ho
      go_wp2_with fail
      clear a0 a1 a4 a5
      (try rw [hd2])
      obtain ⟨wo, rfl⟩ : ∃ wo : World, wo = wr := ⟨_, rfl⟩
      go_loopw [4, 24] (fun v4 vk wr => v4 = .bool false ∧ ∃ k : Nat, k ≤ S ∧ vk = .int .i64 k ∧ Hid (NoneAt C snd tk sn e ow k) ∧ Hid (Below w1.heap.size w1 wr)) (fun _ vk _ => S - (intOf vk).toNat)
      case atStart => exact ⟨rfl, 0, Nat.zero_le _, rfl, (fun s hs => by omega), HB.out⟩
      case round =>
        clear HB
        obtain ⟨rfl, k, hk, rfl, HK, HB⟩ := hrel
        rename World => wr
        obtain ⟨⟨a0, a1⟩, ⟨a2, a3⟩, a4⟩ := HX.out wr HB.out
        clear a0 a2 a3 a4
        by_cases hlk : k < S
        · have a6 := HSN.out wr k HB.out hlk
          by_cases hso : snd k = ow
          · have g0 : (snd k != ow) = false := by simpa using hso
            have HSO := Lib.hid hso
            clear hso
            generalize hq : snd k = q at *
            have HQ := Lib.hid hq
            clear hq
            go_wp2_with fail
            clear a1 a6 g0
            obtain ⟨wo, rfl⟩ : ∃ wo : World, wo = wr := ⟨_, rfl⟩
            go_loopw [4, 34] (fun v4 vb wr => v4 = .bool false ∧ ∃ b : Nat, b ≤ e ∧ vb = .int .i64 b ∧ Hid (∀ j, j < b → freeB C snd tk sn e k j = false) ∧ Hid (Below w1.heap.size w1 wr)) (fun _ vb _ => e - (intOf vb).toNat)
            case atStart => exact ⟨rfl, 0, Nat.zero_le _, rfl, (fun j hj => by omega), HB.out⟩
            case round =>
              clear HB
              obtain ⟨rfl, b, hb, rfl, HJ, HB⟩ := hrel
              rename World => wr
              by_cases hlb : b < e
              · obtain ⟨w5, hw5⟩ : ∃ w5, wr.alloc (.cells #[.int .i64 (k : Int), .int .i64 (b : Int)] 96) = w5 := ⟨_, rfl⟩
                have HB5 : Hid (Below w1.heap.size w1 w5) := by rw [← hw5]; exact HB.out.alloc HB.out.size _
                have HX5 : Hid (w5.heap[wr.heap.size]? = some (.cells #[.int .i64 (k : Int), .int .i64 (b : Int)] 96 (0, 0))) := by rw [← hw5]; exact heap_alloc_new wr _
                have HC5 : Hid (∀ W, Below w5.heap.size w5 W → (W.cell? ⟨wr.heap.size, 0, none⟩ = some (.int .i64 (k : Int)) ∧ W.cell? ⟨wr.heap.size, 1, none⟩ = some (.int .i64 (b : Int))) ∧ (W.cell? ⟨w.heap.size, 0, none⟩ = some (.int .i64 sn) ∧ W.cell? ⟨w.heap.size, 1, none⟩ = some (.int .i64 (e : Int)))) := fun W hW => by
                  have k1 := (hW.block wr.heap.size (lt_of_cells HX5.out)).trans HX5.out
                  have k2 := HX.out W (HB5.out.trans (hW.mono HB5.out.size))
                  exact ⟨⟨cell_of_row W _ 0 _ _ _ k1, cell_of_row W _ 1 _ _ _ k1⟩, k2.1⟩
                obtain ⟨⟨b0, b1⟩, b2, b3⟩ := HC5.out w5 (Below.refl _ _)
                have HPB : Hid (∀ W, Below w5.heap.size w5 W → Below w1.heap.size w1 W) := fun W hW => HB5.out.trans (hW.mono HB5.out.size)
                rcases hf : freeB C snd tk sn e k b
                · have HF := Lib.hid hf
                  have HCF : Hid (Calls Try.prog 115 #[.pointer (some ⟨tb, 0, none⟩), .agg #[.int .i64 sn, .int .i64 (e : Int)], .agg #[.int .i64 (k : Int), .int .i64 (b : Int)]] w5 fun e' w' => e' = .returned (.bool false) ∧ Below w5.heap.size w5 w') := HFR.out k b w5 false hf HB5.out hlk
                  clear hf
                  go_wp2_with (go_at_call 115; refine HCF.out.mono ?_; rintro e' w6 ⟨rfl, hb6⟩; have HB6 := Lib.hid hb6; clear hb6)
                  go_roundw
                  case rel => exact ⟨rfl, b + 1, by omega, by go_num, (fun j hj => by
                    rcases Nat.lt_or_ge j b with h | h
                    · exact HJ.out j h
                    · obtain rfl : j = b := by omega
                      exact HF.out), HPB.out _ HB6.out⟩
                  case measure => simp [intOf]; omega
                · have HF := Lib.hid hf
                  have HCF : Hid (Calls Try.prog 115 #[.pointer (some ⟨tb, 0, none⟩), .agg #[.int .i64 sn, .int .i64 (e : Int)], .agg #[.int .i64 (k : Int), .int .i64 (b : Int)]] w5 fun e' w' => e' = .returned (.bool true) ∧ Below w5.heap.size w5 w') := HFR.out k b w5 true hf HB5.out hlk
                  clear hf
                  go_wp2_with (first
                    | (go_at_call 115; refine HCF.out.mono ?_; rintro e' w6 ⟨rfl, hb6⟩; have HB6 := Lib.hid hb6; obtain ⟨⟨b0, b1⟩, b2, b3⟩ := HC5.out w6 hb6; clear hb6)
                    | (go_at_call 117; refine (HPUT.out k b _ (HPB.out _ HB6.out) hlk).mono ?_; rintro e' w7 ⟨rfl, ht7, hb7⟩; have HT7 := Lib.hid ht7; have HB7 := Lib.hid hb7; clear ht7 hb7))
                  go_ret
                  exact ⟨(HBW.out _ (HPB.out _ HB6.out)).1.trans HB7.out, .inl ⟨k, b, ⟨hlk, hlb⟩, HF.out, by
                    rcases Nat.lt_or_ge 0 i with h | h
                    · exact .inr (HN.out.1 h)
                    · left
                      rw [HQ.out, HSO.out, HO.out, if_pos (by omega)], rfl, HT7.out⟩⟩
              · obtain rfl : b = e := by omega
                go_wp2_with fail
                go_roundw
                case rel => exact ⟨rfl, k + 1, by omega, by go_num, HK.out.snoc fun _ j hj => HJ.out j hj, HB.out⟩
                case measure => simp [intOf]; omega
          · have g0 : (snd k != ow) = true := by simpa using hso
            have HSO := Lib.hid hso
            clear hso
            generalize hq : snd k = q at *
            have HQ := Lib.hid hq
            clear hq
            go_wp2_with fail
            go_roundw
            case rel => exact ⟨rfl, k + 1, by omega, by go_num, HK.out.snoc fun e => absurd (HQ.out.symm.trans e) HSO.out, HB.out⟩
            case measure => simp [intOf]; omega
        · obtain rfl : k = S := by omega
          go_wp2_with fail
          go_roundw
          case rel => exact ⟨rfl, i + 1, by omega, by go_num, by
            have hko := HK.out
            rw [HO.out] at hko
            rcases Nat.lt_or_ge 0 i with h | h
            · obtain rfl : i = 1 := by omega
              exact ⟨fun _ => HN.out.1 (by omega), fun _ => hko⟩
            · obtain rfl : i = 0 := by omega
              exact ⟨fun _ => hko, fun h => by omega⟩, HB.out⟩
          case measure => simp [intOf]; omega
    · obtain rfl : i = 2 := by omega
      go_wp2_with fail
      go_ret
      exact ⟨(HBW.out _ HB.out).1, .inr ⟨HN.out.1 (by omega), HN.out.2 (by omega), rfl, HT.out _ HB.out⟩⟩
end
end Go.Proofs.Ytlbbhlkbhegegaa

/- Walks: cmp.Compare, the messages' order, the insertion sort of messages of the call's own (at most 19), slices.Clone of messages. Printed by gen_tf4.py. -/
namespace Go.Proofs.Ytlbbhlkbhegegaa
open Go.RowKit

def cmpV (x y : Int) : Int := if x < y then -1 else if y < x then 1 else 0
theorem cmpV_neg (x y : Int) : cmpV x y < 0 ↔ x < y := by
  unfold cmpV
  split
  · omega
  · split <;> omega
set_option maxRecDepth 100000 in
theorem isNaN_any (x : Int) (w : World) : Calls Try.prog 123 #[.int .i64 x] w fun e w' => e = .returned (.bool false) ∧ w = w' := by
  go_enter Try.func123, Try.ntmps123
  go_wp2_with fail
  go_ret
  exact ⟨ret_b (by simp), rfl⟩
set_option maxRecDepth 100000 in
theorem compare_any (x y : Int) (w : World) {v : Int} (hv : cmpV x y = v) : Calls Try.prog 114 #[.int .i64 x, .int .i64 y] w fun e w' => e = .returned (.int .i64 v) ∧ w = w' := by
  subst hv
  unfold cmpV
  have H1 := Lib.hid (isNaN_any x w)
  have H2 := Lib.hid (isNaN_any y w)
  by_cases h1 : x < y
  · rw [if_pos h1]
    go_enter Try.func114, Try.ntmps114
    go_wp2_with (go_at_call 123; (with_reducible first | refine H1.out.mono ?_ | refine H2.out.mono ?_); rintro e w2 ⟨rfl, rfl⟩)
    go_ret
    exact ⟨rfl, rfl⟩
  rw [if_neg h1]
  by_cases h2 : y < x
  · rw [if_pos h2]
    go_enter Try.func114, Try.ntmps114
    go_wp2_with (go_at_call 123; (with_reducible first | refine H1.out.mono ?_ | refine H2.out.mono ?_); rintro e w2 ⟨rfl, rfl⟩)
    go_ret
    exact ⟨rfl, rfl⟩
  · rw [if_neg h2]
    go_enter Try.func114, Try.ntmps114
    go_wp2_with (go_at_call 123; (with_reducible first | refine H1.out.mono ?_ | refine H2.out.mono ?_); rintro e w2 ⟨rfl, rfl⟩)
    go_ret
    exact ⟨rfl, rfl⟩
set_option maxRecDepth 100000 in
theorem cmpm_any (x y : MGate) (w : World) {v : Int} (hv : cmpV x.delay y.delay = v) : Calls Try.prog 128 #[pairV x, pairV y] w fun e w' => e = .returned (.int .i64 v) ∧ Below w.heap.size w w' := by
  unfold pairV
  have HC := Lib.hid (fun W => compare_any x.delay y.delay W hv)
  clear hv
  obtain ⟨w1, hw1⟩ : ∃ w1, (w.alloc (.cells #[.int .i64 x.rate, .int .i64 x.delay] 98)).alloc (.cells #[.int .i64 y.rate, .int .i64 y.delay] 98) = w1 := ⟨_, rfl⟩
  have HB : Hid (Below w.heap.size w w1) := by rw [← hw1]; exact ((Below.refl _ _).alloc (Nat.le_refl _) _).alloc (by simp) _
  have hx1 : w1.heap[w.heap.size]? = some (.cells #[.int .i64 x.rate, .int .i64 x.delay] 98 (0, 0)) := by rw [← hw1]; exact (Below.heap_alloc _ _ _ (by simp)).trans (heap_alloc_new w _)
  have hx2 : w1.heap[w.heap.size + 1]? = some (.cells #[.int .i64 y.rate, .int .i64 y.delay] 98 (0, 0)) := by rw [← hw1]; have := heap_alloc_new (w.alloc (.cells #[.int .i64 x.rate, .int .i64 x.delay] 98)) (.cells #[.int .i64 y.rate, .int .i64 y.delay] 98); rwa [World.size_alloc] at this
  have p1 : w1.cell? ⟨w.heap.size, 1, none⟩ = some (.int .i64 x.delay) := cell_of_row w1 _ 1 _ _ _ hx1
  have p2 : w1.cell? ⟨w.heap.size + 1, 1, none⟩ = some (.int .i64 y.delay) := cell_of_row w1 _ 1 _ _ _ hx2
  clear hx1 hx2
  go_enter Try.func128, Try.ntmps128
  go_upto_region 1 with fail
  (try rw [hw1])
  clear hw1
  go_wp2_with (go_at_call 114; refine (HC.out _).mono ?_; rintro e w2 ⟨rfl, rfl⟩)
  go_ret
  exact ⟨rfl, HB.out⟩

/-- messages in memory of the call's own -/
def OwnM (w : World) (g : Nat) (l : List MGate) : Prop := OwnF w g 98 (l.length * 2) (fun p => gateCell l (p / 2) (p % 2))
theorem gateCell_one (l : List MGate) (i j : Nat) : (gateCell l i j).oneCell' = true := by unfold gateCell; split <;> rfl
theorem gateCell_0 {l : List MGate} {k : Nat} {x : MGate} (hx : l[k]? = some x) : gateCell l k 0 = .int .i64 x.rate := by
  unfold gateCell
  rw [if_pos rfl, List.getD_eq_getElem?_getD, hx]
  rfl
theorem gateCell_1 {l : List MGate} {k : Nat} {x : MGate} (hx : l[k]? = some x) : gateCell l k 1 = .int .i64 x.delay := by
  unfold gateCell
  rw [if_neg (by omega), List.getD_eq_getElem?_getD, hx]
  rfl
theorem lt_of_get {α : Type} {l : List α} {k : Nat} {x : α} (h : l[k]? = some x) : k < l.length := by
  rcases Nat.lt_or_ge k l.length with h1 | h1
  · exact h1
  · rw [List.getElem?_eq_none h1] at h; cases h
section
variable {w w' : World} {g : Nat} {l : List MGate}
theorem OwnM.at_ (h : OwnM w g l) {k : Nat} {x : MGate} (hx : l[k]? = some x) : w.cell? ⟨g, k * 2, none⟩ = some (.int .i64 x.rate) ∧ w.cell? ⟨g, k * 2 + 1, none⟩ = some (.int .i64 x.delay) := by
  have hk := lt_of_get hx
  have h0 := OwnF.cell h (j := k * 2) (by omega)
  have h1 := OwnF.cell h (j := k * 2 + 1) (by omega)
  rw [show k * 2 / 2 = k by omega, show k * 2 % 2 = 0 by omega, gateCell_0 hx] at h0
  rw [show (k * 2 + 1) / 2 = k by omega, show (k * 2 + 1) % 2 = 1 by omega, gateCell_1 hx] at h1
  exact ⟨h0, h1⟩
theorem OwnM.fz (h : OwnM w g l) (j : Nat) : w.frozen? ⟨g, j, none⟩ = false := OwnF.frozen h j
theorem OwnM.gates (h : OwnM w g l) : GatesA w w.heap.size (some ⟨g, 0, none⟩) l := fun _ => ⟨g, 0, rfl, OwnF.lt h, fun i j hi hj => by
  have h1 := OwnF.cell h (j := i * 2 + j) (by omega)
  rw [Nat.zero_add, h1, show (i * 2 + j) / 2 = i by omega, show (i * 2 + j) % 2 = j by omega]⟩
theorem OwnM.below {B : Nat} (h : OwnM w g l) (hb : Below B w w') (hg : g < B) : OwnM w' g l := OwnF.below h hb hg
theorem OwnM.put (h : OwnM w g l) {k : Nat} (hk : k < l.length) (x : MGate) : OwnM ((w.setCell ⟨g, k * 2, none⟩ (.int .i64 x.rate)).setCell ⟨g, k * 2 + 1, none⟩ (.int .i64 x.delay)) g (l.set k x) := by
  unfold OwnM
  rw [List.length_set]
  refine (OwnF.set (OwnF.set h (k * 2) (.int .i64 x.rate)) (k * 2 + 1) (.int .i64 x.delay)).congr fun p hp => ?_
  (try dsimp only)
  by_cases h1 : p = k * 2 + 1
  · subst h1
    rw [if_pos rfl, show (k * 2 + 1) / 2 = k by omega, show (k * 2 + 1) % 2 = 1 by omega, gateCell_1 (List.getElem?_set_self hk)]
  · rw [if_neg h1]
    by_cases h2 : p = k * 2
    · subst h2
      rw [if_pos rfl, show k * 2 / 2 = k by omega, show k * 2 % 2 = 0 by omega, gateCell_0 (List.getElem?_set_self hk)]
    · rw [if_neg h2]
      unfold gateCell
      rw [List.getD_eq_getElem?_getD, List.getD_eq_getElem?_getD, List.getElem?_set_ne (by omega)]
end
/-! ### the plain insertion -/
def LeM (a b : MGate) : Prop := a.delay ≤ b.delay
def SrtI (l : List MGate) (i : Nat) (L : List MGate) : Prop := L.Perm l ∧ (L.take i).Pairwise LeM
def InsI (l : List MGate) (i j : Nat) (L : List MGate) : Prop := L.Perm l ∧ ∃ A B R x, L = A ++ x :: (B ++ R) ∧ A.length = j ∧ j + B.length = i ∧ (A ++ B).Pairwise LeM ∧ ∀ b ∈ B, LeM x b
theorem SrtI.len {l L : List MGate} {i : Nat} (h : SrtI l i L) : L.length = l.length := h.1.length_eq
theorem InsI.len {l L : List MGate} {i j : Nat} (h : InsI l i j L) : L.length = l.length := h.1.length_eq
theorem SrtI.one (l : List MGate) : SrtI l 1 l := ⟨.refl _, by
  rcases l with _ | ⟨a, l⟩
  · exact List.Pairwise.nil
  · simp⟩
theorem SrtI.start {l L : List MGate} {i : Nat} (h : SrtI l i L) (hi : i < L.length) : InsI l i i L := by
  refine ⟨h.1, L.take i, [], L.drop (i + 1), L[i], ?_, ?_, by simp, by simpa using h.2, fun b hb => by cases hb⟩
  · rw [List.nil_append, List.getElem_cons_drop, List.take_append_drop]
  · rw [List.length_take]; omega
theorem InsI.fin {l L A B R : List MGate} {i j : Nat} {x : MGate} (hp : L.Perm l) (hL : L = A ++ x :: (B ++ R)) (hA : A.length = j) (hB : j + B.length = i) (hs : (A ++ B).Pairwise LeM) (hx : ∀ b ∈ B, LeM x b) (ha : ∀ a ∈ A, LeM a x) : SrtI l (i + 1) L := by
  refine ⟨hp, ?_⟩
  have h1 : L.take (i + 1) = A ++ x :: B := by
    have h2 : L = (A ++ x :: B) ++ R := by rw [hL]; simp
    rw [h2]
    exact List.take_left' (by simp; omega)
  rw [h1, List.pairwise_append]
  rw [List.pairwise_append] at hs
  refine ⟨hs.1, List.pairwise_cons.2 ⟨hx, hs.2.1⟩, fun a haA b hb => ?_⟩
  rcases List.mem_cons.1 hb with rfl | hb
  · exact ha a haA
  · exact hs.2.2 a haA b hb
theorem InsI.zero {l L : List MGate} {i : Nat} (h : InsI l i 0 L) : SrtI l (i + 1) L := by
  obtain ⟨hp, A, B, R, x, hL, hA, hB, hs, hx⟩ := h
  obtain rfl : A = [] := List.eq_nil_of_length_eq_zero hA
  exact InsI.fin hp hL hA hB hs hx fun a ha => by cases ha
theorem InsI.step {l L : List MGate} {i j : Nat} (h : InsI l i j L) (hj : 0 < j) :
    ∃ x y, L[j]? = some x ∧ L[j - 1]? = some y ∧ (x.delay < y.delay → InsI l i (j - 1) ((L.set j y).set (j - 1) x)) ∧ (¬ x.delay < y.delay → SrtI l (i + 1) L) := by
  obtain ⟨hp, A, B, R, x, hL, hA, hB, hs, hx⟩ := h
  obtain ⟨A', y, rfl⟩ : ∃ A' y, A = A' ++ [y] := by
    rcases List.eq_nil_or_concat A with h | ⟨A', y, h⟩
    · subst h; simp at hA; omega
    · exact ⟨A', y, by rw [h]; simp⟩
  have hA' : A'.length + 1 = j := by simpa using hA
  have hj1 : j - 1 = A'.length := by omega
  have e0 : L = A' ++ y :: x :: (B ++ R) := by rw [hL]; simp
  refine ⟨x, y, ?_, ?_, fun hlt => ⟨?_, A', y :: B, R, x, ?_, hj1.symm, ?_, ?_, ?_⟩, fun hle => InsI.fin hp hL hA hB hs hx fun a ha => ?_⟩
  · rw [e0, ← hA', List.getElem?_append_right (by omega)]; simp
  · rw [e0, hj1, List.getElem?_append_right (by omega)]; simp
  · refine List.Perm.trans ?_ hp
    rw [e0, hj1, ← hA']
    simp only [List.set_append, Nat.lt_irrefl, if_false, Nat.sub_self, List.set_cons_zero, show ¬ (A'.length + 1 < A'.length) by omega, Nat.add_sub_cancel_left, List.set_cons_succ]
    exact List.Perm.append_left _ (List.Perm.swap _ _ _)
  · rw [e0, hj1, ← hA']
    simp
  · rw [List.length_cons]; omega
  · simpa using hs
  · intro b hb
    rcases List.mem_cons.1 hb with rfl | hb
    · exact Int.le_of_lt hlt
    · exact hx b hb
  · rcases List.mem_append.1 ha with ha | ha
    · rw [List.pairwise_append] at hs
      have h1 := (List.pairwise_append.1 hs.1).2.2 a ha y (by simp)
      unfold LeM at h1 ⊢
      omega
    · obtain rfl : a = y := by simpa using ha
      unfold LeM
      omega
theorem SrtI.all {l L : List MGate} {i : Nat} (h : SrtI l i L) (hi : L.length ≤ i) : L.Perm l ∧ L.Pairwise LeM := ⟨h.1, by have := h.2; rwa [List.take_of_length_le hi] at this⟩
section
variable {n0 d : Nat}
set_option maxRecDepth 100000 in
set_option maxHeartbeats 8000000 in
theorem insert_any (l : List MGate) (cap : Nat) (w : World) (ho : OwnM w d l) (hd : n0 ≤ d) (hn : l.length ≤ 1000) :
    Calls Try.prog 136 #[.slice (some ⟨d, 0, none⟩) l.length cap, .int .i64 0, .int .i64 l.length, .func (.func 128) #[] #[]] w fun e w' => e = .returned (.tuple #[]) ∧ ∃ L, (L.Perm l ∧ L.Pairwise LeM) ∧ OwnM w' d L ∧ Below n0 w w' := by
  have HO := Lib.hid ho
  have HS0 : Hid (SrtI l 1 l) := SrtI.one l
  have HBR : Hid (Below n0 w w) := Below.refl _ _
  have HDW : Hid (n0 ≤ w.heap.size) := by have := OwnF.lt ho; show n0 ≤ _; omega
  clear ho
  obtain ⟨n, hN⟩ : ∃ n, l.length = n := ⟨_, rfl⟩
  rw [hN] at hn ⊢
  have HN := Lib.hid hN
  clear hN
  go_enter Try.func136, Try.ntmps136
  go_wp2_with fail
  go_loopw [8] (fun vi wr => ∃ (i : Nat) (L : List MGate), vi = .int .i64 i ∧ 1 ≤ i ∧ (i ≤ n ∨ i = 1) ∧ Hid (SrtI l i L) ∧ Hid (OwnM wr d L) ∧ Hid (Below n0 w wr)) (fun vi _ => n - (intOf vi).toNat)
  case atStart => exact ⟨1, l, rfl, by omega, .inr rfl, HS0, HO, HBR⟩
  case round =>
    obtain ⟨i, L, rfl, hi1, hi2, HS, HW, HB⟩ := hrel
    rename World => wr
    clear HO HS0 HBR
    by_cases hlt : i < n
    · have HLT := Lib.hid hlt
      have HI1 := Lib.hid hi1
      have HP0 : Hid (InsI l i i L) := HS.out.start (by rw [HS.out.len, HN.out]; exact hlt)
      clear hi2
      go_wp2_with fail
      go_loopw [9] (fun vj wz => ∃ (j : Nat) (L : List MGate), j ≤ i ∧ vj = .int .i64 j ∧ Hid (OwnM wz d L) ∧ Hid (Below n0 w wz) ∧ Hid (InsI l i j L)) (fun vj _ => (intOf vj).toNat)
      case atStart => exact ⟨i, L, Nat.le_refl _, rfl, HW, HB, HP0⟩
      case round =>
        clear HW HB HP0 HS
        obtain ⟨j, L, hji, rfl, HZ, HBZ, HP⟩ := hrel
        rename World => wz
        have HJI := Lib.hid hji
        by_cases hj : 0 < j
        · have HJ := Lib.hid hj
          obtain ⟨x, y, hx, hy, hyes, hno⟩ := HP.out.step hj
          obtain ⟨a0, a1⟩ := HZ.out.at_ hx
          obtain ⟨b0, b1⟩ := HZ.out.at_ hy
          have hdz := OwnF.lt HZ.out
          have HLX := Lib.hid (lt_of_get hx)
          have HLL : Hid (L.length = n) := HP.out.len.trans HN.out
          have m0 := BW.cell (B := wz.heap.size) hdz a0
          have m1 := BW.cell (B := wz.heap.size) hdz a1
          have m2 := BW.cell (B := wz.heap.size) hdz b0
          have m3 := BW.cell (B := wz.heap.size) hdz b1
          obtain ⟨v, hv⟩ : ∃ v, cmpV x.delay y.delay = v := ⟨_, rfl⟩
          have hvn := cmpV_neg x.delay y.delay
          rw [hv] at hvn
          have HC : Hid (∀ s : BW wz.heap.size wz, Calls Try.prog 128 #[pairV x, pairV y] s.1 fun e w' => e = .returned (.int .i64 v) ∧ Below s.1.heap.size s.1 w') := fun s => cmpm_any x y s.1 hv
          have hcast : ((j : Int) - 1) = ((j - 1 : Nat) : Int) := by omega
          have HXY := Lib.hid (And.intro hx hy)
          clear hv a0 a1 b0 b1 hx hy
          by_cases hneg : v < 0
          · have hd' : decide (v < 0) = true := decide_eq_true hneg
            have HP1 : Hid (InsI l i (j - 1) ((L.set j y).set (j - 1) x)) := hyes (hvn.1 hneg)
            clear hyes hno hvn hneg
            go_upto_region 4 with fail
            refine wp_region_below wz.heap.size wz (Below.refl _ _) (by kernel_rfl) (by kernel_rfl) ?_
            repeat (go_big_quiet_step ((go_at_call 128; exact quiet_below (Nat.le_refl _) (HC.out _))))
            refine wpQuiet_nil ?_
            clear m0 m1 m2 m3 HC
            intro s
            have HZ5 : Hid (OwnM s.1 d L) := HZ.out.below s.2 hdz
            have HB5 : Hid (Below n0 w s.1) := HBZ.out.trans (s.2.mono (by have := HDW.out; have := HBZ.out.size; omega))
            generalize s.1 = w5 at *
            obtain ⟨a0, a1⟩ := HZ5.out.at_ HXY.out.1
            obtain ⟨b0, b1⟩ := HZ5.out.at_ HXY.out.2
            have f0 := HZ5.out.fz (j * 2)
            have f1 := HZ5.out.fz (j * 2 + 1)
            have f2 := HZ5.out.fz ((j - 1) * 2)
            have f3 := HZ5.out.fz ((j - 1) * 2 + 1)
            have HSW : Hid (OwnM ((((w5.setCell ⟨d, j * 2, none⟩ (.int .i64 y.rate)).setCell ⟨d, j * 2 + 1, none⟩ (.int .i64 y.delay)).setCell ⟨d, (j - 1) * 2, none⟩ (.int .i64 x.rate)).setCell ⟨d, (j - 1) * 2 + 1, none⟩ (.int .i64 x.delay)) d ((L.set j y).set (j - 1) x)) := (HZ5.out.put HLX.out y).put (by rw [List.length_set]; have := HLX.out; omega) x
            obtain ⟨v1, hy1⟩ := cell?_setCell_some (w := w5) (p := ⟨d, j * 2, none⟩) (x := .int .i64 y.rate) (q := ⟨d, j * 2 + 1, none⟩) a1
            obtain ⟨v2, hy2⟩ := cell?_setCell_some (w := w5) (p := ⟨d, j * 2, none⟩) (x := .int .i64 y.rate) (q := ⟨d, (j - 1) * 2, none⟩) b0
            obtain ⟨v3, hy3⟩ := cell?_setCell_some (w := w5.setCell ⟨d, j * 2, none⟩ (.int .i64 y.rate)) (p := ⟨d, j * 2 + 1, none⟩) (x := .int .i64 y.delay) (q := ⟨d, (j - 1) * 2, none⟩) hy2
            obtain ⟨v4, hy4⟩ := cell?_setCell_some (w := w5) (p := ⟨d, j * 2, none⟩) (x := .int .i64 y.rate) (q := ⟨d, (j - 1) * 2 + 1, none⟩) b1
            obtain ⟨v5, hy5⟩ := cell?_setCell_some (w := w5.setCell ⟨d, j * 2, none⟩ (.int .i64 y.rate)) (p := ⟨d, j * 2 + 1, none⟩) (x := .int .i64 y.delay) (q := ⟨d, (j - 1) * 2 + 1, none⟩) hy4
            obtain ⟨v6, hy6⟩ := cell?_setCell_some (w := (w5.setCell ⟨d, j * 2, none⟩ (.int .i64 y.rate)).setCell ⟨d, j * 2 + 1, none⟩ (.int .i64 y.delay)) (p := ⟨d, (j - 1) * 2, none⟩) (x := .int .i64 x.rate) (q := ⟨d, (j - 1) * 2 + 1, none⟩) hy5
            go_upto_region 6 with fail
            go_region
            go_wp2_with fail
            go_roundw
            case rel => exact ⟨j - 1, (L.set j y).set (j - 1) x, by omega, rfl, HSW.out, ((((HB5.out.setCell (p := ⟨d, j * 2, none⟩) hd _).setCell (p := ⟨d, j * 2 + 1, none⟩) hd _).setCell (p := ⟨d, (j - 1) * 2, none⟩) hd _).setCell (p := ⟨d, (j - 1) * 2 + 1, none⟩) hd _).drew, HP1⟩
            case measure => simp [intOf]; omega
          · have hd' : decide (v < 0) = false := decide_eq_false hneg
            have HP1 : Hid (SrtI l (i + 1) L) := hno (fun h => hneg (hvn.2 h))
            clear hyes hno hvn hneg
            go_upto_region 4 with fail
            refine wp_region_below wz.heap.size wz (Below.refl _ _) (by kernel_rfl) (by kernel_rfl) ?_
            repeat (go_big_quiet_step ((go_at_call 128; exact quiet_below (Nat.le_refl _) (HC.out _))))
            refine wpQuiet_nil ?_
            clear m0 m1 m2 m3 HC
            intro s
            have HZ5 : Hid (OwnM s.1 d L) := HZ.out.below s.2 hdz
            have HB5 : Hid (Below n0 w s.1) := HBZ.out.trans (s.2.mono (by have := HDW.out; have := HBZ.out.size; omega))
            generalize s.1 = w5 at *
            go_wp2_with fail
            go_roundw
            case rel => exact ⟨i + 1, L, by go_num, by omega, .inl HLT.out, HP1, HZ5, HB5⟩
            case measure => simp [intOf]; have := HLT.out; omega
        · obtain rfl : j = 0 := by omega
          have HFIN : Hid (SrtI l (i + 1) L) := HP.out.zero
          go_upto_region 4 with fail
          go_quiet (fail)
          have HZ5 : Hid (OwnM (wz.drewN nq) d L) := OwnF.drewN HZ.out nq
          have HB5 : Hid (Below n0 w (wz.drewN nq)) := ⟨HBZ.out.os, HBZ.out.tape, HBZ.out.output, HBZ.out.size, HBZ.out.block⟩
          generalize wz.drewN nq = w5 at *
          go_wp2_with fail
          go_roundw
          case rel => exact ⟨i + 1, L, by go_num, by omega, .inl HLT.out, HFIN, HZ5, HB5⟩
          case measure => simp [intOf]; have := HLT.out; omega
    · have HE := Lib.hid (HS.out.all (by rw [HS.out.len, HN.out]; omega))
      go_wp2_with fail
      go_end0
      exact ⟨rfl, L, HE.out, HW.out, HB.out⟩
set_option maxRecDepth 100000 in
theorem insert_no (D : Option Addr) (cap : Nat) (f : Value) (w : World) : Calls Try.prog 136 #[.slice D 0 cap, .int .i64 0, .int .i64 0, f] w fun e w' => e = .returned (.tuple #[]) ∧ w = w' := by
  go_enter Try.func136, Try.ntmps136
  go_wp2_with fail
  go_loopw [8] (fun vi wr => vi = .int .i64 1 ∧ wr = w) (fun _ _ => 0)
  case atStart => exact ⟨rfl, rfl⟩
  case round =>
    obtain ⟨rfl, rfl⟩ := hrel
    go_wp2_with fail
    go_end0
    exact ⟨rfl, rfl⟩
/-- messages in a row of the call's own, or none at all -/
def RowM (w : World) (base : Nat) (v : Value) (l : List MGate) : Prop := (l = [] ∧ ∃ A c, v = .slice A 0 c) ∨ ∃ g c, v = .slice (some ⟨g, 0, none⟩) l.length c ∧ base ≤ g ∧ OwnM w g l
def SortM (l : List MGate) (n0 : Nat) (v : Value) (w : World) (w' : World) : Prop := ∃ L, (L.Perm l ∧ L.Pairwise LeM) ∧ RowM w' n0 v L ∧ Below n0 w w'
theorem insertR_any (l : List MGate) (v : Value) (w : World) (h : RowM w n0 v l) (hn : l.length ≤ 1000) : Calls Try.prog 136 #[v, .int .i64 0, .int .i64 l.length, .func (.func 128) #[] #[]] w fun e w' => e = .returned (.tuple #[]) ∧ SortM l n0 v w w' := by
  rcases h with ⟨rfl, A, c, rfl⟩ | ⟨g, c, rfl, hg, ho⟩
  · exact (insert_no A c _ w).mono fun e w' ⟨he, hw⟩ => by
      subst hw
      exact ⟨he, [], ⟨.refl _, List.Pairwise.nil⟩, .inl ⟨rfl, A, c, rfl⟩, Below.refl _ _⟩
  · refine (insert_any l c w ho hg hn).mono fun e w' ⟨he, L, h1, h2, h3⟩ => ⟨he, L, h1, .inr ⟨g, c, ?_, hg, h2⟩, h3⟩
    rw [h1.1.length_eq]
set_option maxRecDepth 100000 in
set_option maxHeartbeats 8000000 in
theorem stable_any (l : List MGate) (v : Value) (w : World) (h : RowM w n0 v l) (hn : l.length < 20) : Calls Try.prog 134 #[v, .int .i64 l.length, .func (.func 128) #[] #[]] w fun e w' => e = .returned (.tuple #[]) ∧ SortM l n0 v w w' := by
  have HI := Lib.hid (insertR_any l v w h (by omega))
  obtain ⟨n, hN⟩ : ∃ n, l.length = n := ⟨_, rfl⟩
  rw [hN] at HI hn ⊢
  clear hN h
  generalize SortM l n0 v w = P at *
  go_enter Try.func134, Try.ntmps134
  go_wp2_with fail
  go_loopw [7, 8] (fun va vb wr => va = .int .i64 0 ∧ vb = .int .i64 20 ∧ wr = w) (fun va _ _ => 0)
  case atStart => exact ⟨rfl, rfl, rfl⟩
  case round =>
    obtain ⟨rfl, rfl, rfl⟩ := hrel
    go_wp2_with (go_at_call 136; refine HI.out.mono ?_; rintro e w2 ⟨rfl, hP⟩)
    go_loopw [6] (fun v6 wr => v6 = .int .i64 20 ∧ wr = w2) (fun _ _ => 0)
    case atStart => exact ⟨rfl, rfl⟩
    case round =>
      obtain ⟨rfl, rfl⟩ := hrel
      go_wp2_with fail
      go_end0
      exact ⟨rfl, hP⟩
theorem RowM.len {w : World} {base : Nat} {v : Value} {l : List MGate} (h : RowM w base v l) : ∃ A c, v = .slice A l.length c := by
  rcases h with ⟨rfl, A, c, rfl⟩ | ⟨g, c, rfl, hg, ho⟩
  · exact ⟨A, c, rfl⟩
  · exact ⟨_, c, rfl⟩
set_option maxRecDepth 100000 in
theorem sortm_any (l : List MGate) (v : Value) (w : World) (h : RowM w n0 v l) (hn : l.length < 20) : Calls Try.prog 127 #[v, .func (.func 128) #[] #[]] w fun e w' => e = .returned (.tuple #[]) ∧ SortM l n0 v w w' := by
  have HC := Lib.hid (stable_any l v w h hn)
  obtain ⟨A, c, rfl⟩ := h.len
  clear h
  generalize SortM l n0 _ w = P at *
  go_enter Try.func127, Try.ntmps127
  go_wp2_with (go_at_call 134; refine HC.out.mono ?_; rintro e w2 ⟨rfl, hP⟩)
  go_end0
  exact ⟨rfl, hP⟩
theorem info_msg : (Try.prog.info? 98).map (fun i => (i.zero, i.size, i.bytes)) = some (some (.agg #[.int .i64 0, .int .i64 0]), 2, 16) := by kernel_rfl
theorem under_msgs : Try.prog.underlying 52 = some (.slice 98) := by kernel_rfl
section
variable {ops : Array Oper} {rest : List Oper} {o : Oper} {a : Act} {Q : Exit → Act → World → Prop}
set_option maxRecDepth 100000 in
theorem app_msgs (w : World) (hg : o.guard = none) (s x : Operand) (ho : o.op = .call { callee := .builtin .append, args := #[s, x], argTypes := #[52, 52] }) (base : Nat) (hs : a.eval s = .slice (some ⟨base, 0, none⟩) 0 0) (hb0 : w.heap[base]? = some (.cells #[] 98 (0, 0)))
    (A : Addr) (cap : Nat) (l : List MGate) (hx : a.eval x = .slice (some A) l.length cap) (h : GatesA w w.heap.size (some A) l) (hlen : l.length ≤ 1000)
    (hK : ∀ v w', RowM w' base v l → Below base w w' → wpList Try.prog ops Q rest (a.put o.dst v) w') : wpList Try.prog ops Q (o :: rest) a w := by
  obtain ⟨i0, hi, hz0, hz1, hz2⟩ := info_parts info_msg
  have hnl : ((List.range (l.length * 2)).map fun p => gateCell l (p / 2) (p % 2)).length = l.length * 2 := by simp
  have hbs := lt_of_cells hb0
  have hO : w.ownsRow base 98 2 (.slice (some ⟨base, 0, none⟩) 0 0) 0 [] := ⟨rfl, .inr ⟨base, 0, #[], rfl, Nat.le_refl _, hb0, Nat.le_refl _, by unfold maxLen; omega, rfl, rfl⟩⟩
  refine wpList_append_own w hg s x 52 ho base 98 i0 _ 2 16 under_msgs hi hz0 hz1 hz2 rfl (by decide) _ 0 [] hs hO A l.length cap ((List.range (l.length * 2)).map fun p => gateCell l (p / 2) (p % 2)) hx hnl ?_ ?_ (by unfold maxLen; omega) (by omega) (Nat.le_of_lt hbs) (fun v' w' h1 h2 h3 => ?_)
  · intro j u hj
    have hjl : j < l.length * 2 := by
      rcases Nat.lt_or_ge j (l.length * 2) with h1 | h1
      · exact h1
      · rw [List.getElem?_eq_none (by omega)] at hj; cases hj
    simp only [List.getElem?_map, List.getElem?_range hjl, Option.map_some, Option.some.injEq] at hj
    rw [← hj]
    obtain ⟨b, off, hA, hb, hc⟩ := h (by omega)
    injection hA with hA
    subst hA
    have := hc (j / 2) (j % 2) (by omega) (by omega)
    rw [add_none']
    rw [show off + j / 2 * 2 + j % 2 = off + j by omega] at this
    exact this
  · intro u hu
    obtain ⟨p, _, rfl⟩ := List.mem_map.1 hu
    exact gateCell_one _ _ _
  · rw [Nat.zero_add] at h1
    refine hK v' w' ?_ ((Below.refl _ _).grown h2 (Nat.le_of_lt hbs) (fun k hk => (own_block_lt hO k hk).1))
    obtain ⟨hl', h1'⟩ := id h1
    rcases h1' with ⟨hv, h0⟩ | ⟨g, cap', cur, hv, r⟩
    · exact .inl ⟨List.eq_nil_of_length_eq_zero h0, none, 0, hv⟩
    · by_cases h0 : 0 < l.length
      · subst hv
        obtain ⟨hb1, hb2, ho1⟩ := ownF_of_row h1 h0
        refine .inr ⟨g, cap', rfl, hb1, ho1.congr fun p hp => ?_⟩
        simp [List.getD_eq_getElem?_getD, hp]
      · obtain rfl : l = [] := List.eq_nil_of_length_eq_zero (by omega)
        exact .inl ⟨rfl, _, _, hv⟩
end
set_option maxRecDepth 100000 in
theorem clonem_any (A : Option Addr) (cap : Nat) (l : List MGate) (w : World) (h : GatesA w w.heap.size A l) (hl : l.length ≤ 1000) :
    Calls Try.prog 126 #[.slice A l.length cap] w fun e w' => ∃ v, e = .returned v ∧ RowM w' w.heap.size v l ∧ Below w.heap.size w w' := by
  have hrun := fun (w : World) (a : Option Addr) (l c : Nat) => Lib.run_eql_slice_nil (P := Try.prog) w 52 98 a l c 0 0 under_msgs
  rcases A with _ | A
  · obtain rfl : l = [] := by
      rcases l with _ | ⟨x, r⟩
      · rfl
      · obtain ⟨b, off, e, _⟩ := h (by simp)
        cases e
    go_enter Try.func126, Try.ntmps126
    go_wp2_with fail
    go_ret
    exact ⟨_, rfl, .inl ⟨rfl, _, _, rfl⟩, Below.refl _ _⟩
  · have hG : GatesA (w.alloc (.cells #[] 98)) (w.alloc (.cells #[] 98)).heap.size (some A) l := (h.below ((Below.refl _ _).alloc (Nat.le_refl _) _) (Nat.le_refl _)).more (by simp)
    have hN := heap_alloc_new w (.cells #[] 98)
    have HG := Lib.hid hG
    have HN := Lib.hid hN
    have hl0 : l.length ≤ 1000 := hl
    have HL := Lib.hid hl0
    clear hG hN h hl hl0
    go_enter Try.func126, Try.ntmps126
    go_wp2_with (at_builtin; refine app_msgs _ rfl _ _ rfl w.heap.size rfl HN.out A cap l rfl HG.out HL.out ?_; intro v6 w6 hO6 hg6)
    go_ret
    exact ⟨_, rfl, hO6, ((Below.refl _ _).alloc (Nat.le_refl _) _).trans hg6⟩
end
end Go.Proofs.Ytlbbhlkbhegegaa
