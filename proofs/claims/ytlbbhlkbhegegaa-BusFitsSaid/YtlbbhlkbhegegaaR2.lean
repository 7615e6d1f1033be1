/- Walks: the closures that response settles. -/
import Derived.Test.YtlbbhlkbhegegaaR1
namespace Go.Proofs.Ytlbbhlkbhegegaa
open Go.RowKit

/-- what the closures of response find in memory -/
structure REnv (A : Option Addr) (cap : Nat) (l : List MFrame) (ab : Nat → Bool) (lb bb gb kb ob pb : Nat) (block : Int) (own : MFrame) (w : World) : Prop where
  frames : FramesA w w.heap.size A l
  hl : lb < w.heap.size
  lc : w.cell? ⟨lb, 0, none⟩ = some (.slice A l.length cap)
  hb : bb < w.heap.size
  bc : w.cell? ⟨bb, 0, none⟩ = some (.slice (some ⟨gb, 0, none⟩) l.length l.length)
  og : OwnF w gb 4 l.length (fun j => .bool (ab j))
  hk : kb < w.heap.size
  kc : w.cell? ⟨kb, 0, none⟩ = some (.int .i64 block)
  ho : ob < w.heap.size
  o0 : w.cell? ⟨ob, 0, none⟩ = some (.int .i64 own.size)
  o1 : w.cell? ⟨ob, 1, none⟩ = some (.int .i64 own.every)
  o2 : w.cell? ⟨ob, 2, none⟩ = some (.int .i64 own.jitter)
  o3 : w.cell? ⟨ob, 3, none⟩ = some (.int .i64 own.due)
  o4 : w.cell? ⟨ob, 4, none⟩ = some (.int .i64 own.rank)
  hp : pb < w.heap.size
  pc : w.cell? ⟨pb, 0, none⟩ = some (.func (.func 96) #[] #[.pointer (some ⟨lb, 0, none⟩), .pointer (some ⟨bb, 0, none⟩)])
theorem REnv.below {A : Option Addr} {cap : Nat} {l : List MFrame} {ab : Nat → Bool} {lb bb gb kb ob pb : Nat} {block : Int} {own : MFrame} {w w' : World} (h : REnv A cap l ab lb bb gb kb ob pb block own w) (hb : Below w.heap.size w w') : REnv A cap l ab lb bb gb kb ob pb block own w' :=
  have hs := hb.size
  ⟨(h.frames.keep hb).more hs, Nat.lt_of_lt_of_le h.hl hs, (bcell hb _ _ h.hl).trans h.lc, Nat.lt_of_lt_of_le h.hb hs, (bcell hb _ _ h.hb).trans h.bc, h.og.below hb h.og.lt, Nat.lt_of_lt_of_le h.hk hs, (bcell hb _ _ h.hk).trans h.kc,
    Nat.lt_of_lt_of_le h.ho hs, (bcell hb _ _ h.ho).trans h.o0, (bcell hb _ _ h.ho).trans h.o1, (bcell hb _ _ h.ho).trans h.o2, (bcell hb _ _ h.ho).trans h.o3, (bcell hb _ _ h.ho).trans h.o4, Nat.lt_of_lt_of_le h.hp hs, (bcell hb _ _ h.hp).trans h.pc⟩
def busyS (l : List MFrame) (ab : Nat → Bool) (block : Int) (own : MFrame) (t : Int) : Int := block + manyUp t own * own.size + loadTo l ab (manyUp t) l.length

set_option maxRecDepth 100000 in
set_option maxHeartbeats 1000000 in
theorem busy98 {A : Option Addr} {cap : Nat} {l : List MFrame} {ab : Nat → Bool} {lb bb gb kb ob pb : Nat} {block : Int} {own : MFrame} (t : Int) (w : World) (h : REnv A cap l ab lb bb gb kb ob pb block own w)
    (hF : ∀ (k : Nat) (f : MFrame), l[k]? = some f → FOk f) (hO : FOk own) (hl : l.length ≤ 40) (hT : 0 ≤ t ∧ t ≤ 100000000) (hB : 0 ≤ block ∧ block ≤ 1000) :
    Calls Try.prog 98 #[.int .i64 t, .pointer (some ⟨kb, 0, none⟩), .pointer (some ⟨ob, 0, none⟩), .pointer (some ⟨pb, 0, none⟩)] w fun e w' => e = .returned (.int .i64 (busyS l ab block own t)) ∧ Below w.heap.size w w' := by
  have hm := manyUp_bd hO hT
  have hs := hO.1
  have hbd := loadTo_bd (ab := ab) (F := manyUp t) hl (fun k f hf => ⟨manyUp_bd (hF k f hf) hT, (hF k f hf).1⟩) l.length (Nat.le_refl _)
  have hb1 : Below w.heap.size w (w.alloc (.cells #[.int .i64 t] 3)) := (Below.refl _ _).alloc (Nat.le_refl _) _
  have hR := h.below hb1
  have hmul : 0 ≤ manyUp t own * own.size ∧ manyUp t own * own.size ≤ 200000000000 := by
    constructor
    · exact Int.mul_nonneg hm.1 (by omega)
    · have := Int.mul_le_mul hm.2 hs.2 (by omega) (by omega)
      omega
  have HFIN : Hid (busyS l ab block own t = block + manyUp t own * own.size + loadTo l ab (manyUp t) l.length) := rfl
  have HF := Lib.hid hF
  have HO := Lib.hid hO
  have n0 := newcell w #[.int .i64 t] 3 0
  simp only [List.getElem?_toArray, List.getElem?_cons_zero] at n0
  have hws : w.heap.size < (w.alloc (.cells #[.int .i64 t] 3)).heap.size := by simp
  clear hF hO h
  go_enter Try.func98, Try.ntmps98
  go_wp2_with fail
  generalize hW : w.alloc (.cells #[.int .i64 t] 3) = w5 at *
  clear hW
  have m0 := BW.cell (B := w5.heap.size) hR.hk hR.kc
  have m1 := BW.cell (B := w5.heap.size) hR.ho hR.o0
  have m2 := BW.cell (B := w5.heap.size) hR.ho hR.o1
  have m3 := BW.cell (B := w5.heap.size) hR.ho hR.o2
  have m4 := BW.cell (B := w5.heap.size) hR.ho hR.o3
  have m5 := BW.cell (B := w5.heap.size) hR.ho hR.o4
  have m6 := BW.cell (B := w5.heap.size) hR.hp hR.pc
  have m7 := BW.cell (B := w5.heap.size) hws n0
  have HC1 : Hid (∀ s : BW w5.heap.size w5, Calls Try.prog 99 #[frameV own, .pointer (some ⟨w.heap.size, 0, none⟩)] s.1 fun e w' => e = .returned (.int .i64 (manyUp t own)) ∧ Below s.1.heap.size s.1 w') := fun s => many99 own _ t s.1 HO.out hT (by have := s.2.size; omega) (m7 s)
  have HC2 : Hid (∀ s : BW w5.heap.size w5, Calls Try.prog 96 #[.func (.func 99) #[] #[.pointer (some ⟨w.heap.size, 0, none⟩)], .pointer (some ⟨lb, 0, none⟩), .pointer (some ⟨bb, 0, none⟩)] s.1 fun e w' => e = .returned (.int .i64 (loadTo l ab (manyUp t) l.length)) ∧ Below s.1.heap.size s.1 w') := fun s =>
    have hS := hR.below s.2
    load99 A cap l ab _ lb bb gb t s.1 hS.frames HF.out hl hT (m7 s) (by have := s.2.size; omega) hS.lc hS.hb hS.bc hS.og
  generalize manyUp t own = M at *
  generalize loadTo l ab (manyUp t) l.length = L at *
  have e1 : IntKind.i64.wrap (M * own.size) = M * own.size := IntWalk.i64_in _ (by omega)
  have e2 : IntKind.i64.wrap (block + M * own.size) = block + M * own.size := IntWalk.i64_in _ (by omega)
  have e3 : IntKind.i64.wrap (block + M * own.size + L) = block + M * own.size + L := IntWalk.i64_in _ (by omega)
  clear hR n0 m7
  refine wp_region_below w5.heap.size w5 (Below.refl _ _) (by kernel_rfl) (by kernel_rfl) ?_
  repeat (go_big_quiet_step (first | (go_at_call 99; exact quiet_below (Nat.le_refl _) (HC1.out _)) | (go_at_call 96; exact quiet_below (Nat.le_refl _) (HC2.out _))))
  refine wpQuiet_nil ?_
  clear e1 e2 e3 m0 m1 m2 m3 m4 m5 m6
  intro s
  go_wp2_with fail
  go_ret
  exact ⟨ret_i HFIN.out.symm, hb1.trans (s.2.mono (by omega))⟩
end Go.Proofs.Ytlbbhlkbhegegaa
