/- Walks: the second closure that response settles. -/
import Derived.Test.YtlbbhlkbhegegaaR2
namespace Go.Proofs.Ytlbbhlkbhegegaa
open Go.RowKit

def waitS (l : List MFrame) (ab : Nat → Bool) (block : Int) (own : MFrame) (q t : Int) : Int := block + q * own.size + loadTo l ab (manyAt t) l.length
set_option maxRecDepth 100000 in
set_option maxHeartbeats 1000000 in
theorem wait100 {A : Option Addr} {cap : Nat} {l : List MFrame} {ab : Nat → Bool} {lb bb gb kb ob pb : Nat} {block : Int} {own : MFrame} (qb : Nat) (q t : Int) (w : World) (h : REnv A cap l ab lb bb gb kb ob pb block own w) (hqb : qb < w.heap.size) (hqc : w.cell? ⟨qb, 0, none⟩ = some (.int .i64 q)) (hQ : 0 ≤ q ∧ q ≤ 10000000)
    (hF : ∀ (k : Nat) (f : MFrame), l[k]? = some f → FOk f) (hO : FOk own) (hl : l.length ≤ 40) (hT : 0 ≤ t ∧ t ≤ 100000000) (hB : 0 ≤ block ∧ block ≤ 1000) :
    Calls Try.prog 100 #[.int .i64 t, .pointer (some ⟨kb, 0, none⟩), .pointer (some ⟨qb, 0, none⟩), .pointer (some ⟨ob, 0, none⟩), .pointer (some ⟨pb, 0, none⟩)] w fun e w' => e = .returned (.int .i64 (waitS l ab block own q t)) ∧ Below w.heap.size w w' := by
  have hs := hO.1
  have hbd := loadTo_bd (ab := ab) (F := manyAt t) hl (fun k f hf => ⟨manyAt_bd (hF k f hf) hT, (hF k f hf).1⟩) l.length (Nat.le_refl _)
  have hb1 : Below w.heap.size w (w.alloc (.cells #[.int .i64 t] 3)) := (Below.refl _ _).alloc (Nat.le_refl _) _
  have hR := h.below hb1
  have hmul : 0 ≤ q * own.size ∧ q * own.size ≤ 200000000000 := by
    constructor
    · exact Int.mul_nonneg hQ.1 (by omega)
    · have := Int.mul_le_mul hQ.2 hs.2 (by omega) (by omega)
      omega
  have HFIN : Hid (waitS l ab block own q t = block + q * own.size + loadTo l ab (manyAt t) l.length) := rfl
  have HF := Lib.hid hF
  have n0 := newcell w #[.int .i64 t] 3 0
  simp only [List.getElem?_toArray, List.getElem?_cons_zero] at n0
  have hws : w.heap.size < (w.alloc (.cells #[.int .i64 t] 3)).heap.size := by simp
  have hqc5 := (bcell hb1 qb 0 hqb).trans hqc
  clear hF hO h hqc
  go_enter Try.func100, Try.ntmps100
  go_wp2_with fail
  generalize hW : w.alloc (.cells #[.int .i64 t] 3) = w5 at *
  clear hW
  have m0 := BW.cell (B := w5.heap.size) hR.hk hR.kc
  have m1 := BW.cell (B := w5.heap.size) hR.ho hR.o0
  have m6 := BW.cell (B := w5.heap.size) hR.hp hR.pc
  have m7 := BW.cell (B := w5.heap.size) hws n0
  have m8 := BW.cell (B := w5.heap.size) (show qb < w5.heap.size by omega) hqc5
  have HC2 : Hid (∀ s : BW w5.heap.size w5, Calls Try.prog 96 #[.func (.func 101) #[] #[.pointer (some ⟨w.heap.size, 0, none⟩)], .pointer (some ⟨lb, 0, none⟩), .pointer (some ⟨bb, 0, none⟩)] s.1 fun e w' => e = .returned (.int .i64 (loadTo l ab (manyAt t) l.length)) ∧ Below s.1.heap.size s.1 w') := fun s =>
    have hS := hR.below s.2
    load101 A cap l ab _ lb bb gb t s.1 hS.frames HF.out hl hT (m7 s) (by have := s.2.size; omega) hS.lc hS.hb hS.bc hS.og
  generalize loadTo l ab (manyAt t) l.length = L at *
  have e1 : IntKind.i64.wrap (q * own.size) = q * own.size := IntWalk.i64_in _ (by omega)
  have e2 : IntKind.i64.wrap (block + q * own.size) = block + q * own.size := IntWalk.i64_in _ (by omega)
  have e3 : IntKind.i64.wrap (block + q * own.size + L) = block + q * own.size + L := IntWalk.i64_in _ (by omega)
  clear hR n0 m7 hqc5
  refine wp_region_below w5.heap.size w5 (Below.refl _ _) (by kernel_rfl) (by kernel_rfl) ?_
  repeat (go_big_quiet_step ((go_at_call 96; exact quiet_below (Nat.le_refl _) (HC2.out _))))
  refine wpQuiet_nil ?_
  clear e1 e2 e3 m0 m1 m6 m8
  intro s
  go_wp2_with fail
  go_ret
  exact ⟨ret_i HFIN.out.symm, hb1.trans (s.2.mono (by omega))⟩
end Go.Proofs.Ytlbbhlkbhegegaa
