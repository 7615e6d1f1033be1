/- Walks: bus.response. -/
import Derived.Test.YtlbbhlkbhegegaaSet
import Derived.Laws.EntriesVeiled
namespace Go.Proofs.Ytlbbhlkbhegegaa
open Go.RowKit

theorem blockTo_bd {l : List MFrame} {ab : Nat → Bool} {i : Nat} (hF : ∀ (k : Nat) (f : MFrame), l[k]? = some f → FOk f) : ∀ k, k ≤ l.length → 0 ≤ blockTo l ab i k ∧ blockTo l ab i k ≤ 999
  | 0, _ => by simp [blockTo]
  | k + 1, hk => by
    have h1 := blockTo_bd (ab := ab) (i := i) hF k (by omega)
    have hf : l[k]? = some l[k] := List.getElem?_eq_getElem (by omega)
    have h2 := (hF k _ hf).1
    unfold blockTo
    rw [show l.getD k ⟨0, 0, 0, 0, 0⟩ = l[k] by rw [List.getD_eq_getElem?_getD, hf]; rfl]
    split <;> omega
theorem blockTo_succ {l : List MFrame} {ab : Nat → Bool} {i k : Nat} {f : MFrame} (hf : l[k]? = some f) : blockTo l ab i (k + 1) = if k ≠ i ∧ ab k = false then max (blockTo l ab i k) (f.size - 1) else blockTo l ab i k := by
  rw [blockTo, show l.getD k ⟨0, 0, 0, 0, 0⟩ = f by rw [List.getD_eq_getElem?_getD, hf]; rfl]

/-- as REnv, ahead of the closure's box; the frames lie below block B0 -/
structure RE0 (B0 : Nat) (A : Option Addr) (cap : Nat) (l : List MFrame) (ab : Nat → Bool) (lb bb gb kb ob : Nat) (block : Int) (own : MFrame) (w : World) : Prop where
  frames : FramesA w B0 A l
  hlb : B0 ≤ lb
  hbb : lb < bb
  hgb : gb < B0
  hob : bb < ob
  hkb : ob < kb
  hk : kb < w.heap.size
  lc : w.cell? ⟨lb, 0, none⟩ = some (.slice A l.length cap)
  bc : w.cell? ⟨bb, 0, none⟩ = some (.slice (some ⟨gb, 0, none⟩) l.length l.length)
  og : OwnF w gb 4 l.length (fun j => .bool (ab j))
  kc : w.cell? ⟨kb, 0, none⟩ = some (.int .i64 block)
  kf : w.frozen? ⟨kb, 0, none⟩ = false
  o0 : w.cell? ⟨ob, 0, none⟩ = some (.int .i64 own.size)
  o1 : w.cell? ⟨ob, 1, none⟩ = some (.int .i64 own.every)
  o2 : w.cell? ⟨ob, 2, none⟩ = some (.int .i64 own.jitter)
  o3 : w.cell? ⟨ob, 3, none⟩ = some (.int .i64 own.due)
  o4 : w.cell? ⟨ob, 4, none⟩ = some (.int .i64 own.rank)
section
variable {B0 : Nat} {A : Option Addr} {cap : Nat} {l : List MFrame} {ab : Nat → Bool} {lb bb gb kb ob : Nat} {block : Int} {own : MFrame} {w w' : World}
theorem RE0.below (h : RE0 B0 A cap l ab lb bb gb kb ob block own w) {B : Nat} (hb : Below B w w') (hB : kb < B) : RE0 B0 A cap l ab lb bb gb kb ob block own w' := by
  have a1 := h.hlb
  have a2 := h.hbb
  have a3 := h.hgb
  have a4 := h.hob
  have a5 := h.hkb
  have hs := hb.size
  have a6 := h.hk
  exact ⟨h.frames.below (hb.mono (B' := B0) (by omega)) (Nat.le_refl _), a1, a2, a3, a4, a5, by omega, (bcell hb _ _ (by omega)).trans h.lc, (bcell hb _ _ (by omega)).trans h.bc, h.og.below hb (by omega), (bcell hb _ _ (by omega)).trans h.kc,
    (bfrozen hb _ _ (by omega)).trans h.kf, (bcell hb _ _ (by omega)).trans h.o0, (bcell hb _ _ (by omega)).trans h.o1, (bcell hb _ _ (by omega)).trans h.o2, (bcell hb _ _ (by omega)).trans h.o3, (bcell hb _ _ (by omega)).trans h.o4⟩
theorem cell_far' {b b' o o' : Nat} {u : Value} (h : b ≠ b') : (w.setCell ⟨b', o', none⟩ u).cell? ⟨b, o, none⟩ = w.cell? ⟨b, o, none⟩ :=
  World.cell?_of_block (w := w) (Below.heap_setCell w ⟨b', o', none⟩ u b h)
theorem RE0.setK (h : RE0 B0 A cap l ab lb bb gb kb ob block own w) (x : Int) : RE0 B0 A cap l ab lb bb gb kb ob x own (w.setCell ⟨kb, 0, none⟩ (.int .i64 x)) := by
  have a1 := h.hlb
  have a2 := h.hbb
  have a3 := h.hgb
  have a4 := h.hob
  have a5 := h.hkb
  have a6 := h.hk
  have hb : Below kb w (w.setCell ⟨kb, 0, none⟩ (.int .i64 x)) := (Below.refl _ _).setCell (p := ⟨kb, 0, none⟩) (Nat.le_refl _) _
  refine ⟨h.frames.below (hb.mono (B' := B0) (by omega)) (Nat.le_refl _), a1, a2, a3, a4, a5, by simpa using a6, (bcell hb _ _ (by omega)).trans h.lc, (bcell hb _ _ (by omega)).trans h.bc, h.og.below hb (by omega), ?_, ?_,
    (bcell hb _ _ (by omega)).trans h.o0, (bcell hb _ _ (by omega)).trans h.o1, (bcell hb _ _ (by omega)).trans h.o2, (bcell hb _ _ (by omega)).trans h.o3, (bcell hb _ _ (by omega)).trans h.o4⟩
  · exact World.cell?_setCell_same' w _ _ (by rw [h.kc]; rfl)
  · have := h.kf
    simpa using this
end
theorem RE0.env {B0 : Nat} {A : Option Addr} {cap : Nat} {l : List MFrame} {ab : Nat → Bool} {lb bb gb kb ob : Nat} {block : Int} {own : MFrame} {w : World} (h : RE0 B0 A cap l ab lb bb gb kb ob block own w) :
    REnv A cap l ab lb bb gb kb ob w.heap.size block own (w.alloc (.cells #[.func (.func 96) #[] #[.pointer (some ⟨lb, 0, none⟩), .pointer (some ⟨bb, 0, none⟩)]] 136)) := by
  have hb : Below w.heap.size w (w.alloc (.cells #[.func (.func 96) #[] #[.pointer (some ⟨lb, 0, none⟩), .pointer (some ⟨bb, 0, none⟩)]] 136)) := (Below.refl _ _).alloc (Nat.le_refl _) _
  have h1 := h.below hb h.hk
  have a1 := h.hlb
  have a2 := h.hbb
  have a3 := h.hgb
  have a4 := h.hob
  have a5 := h.hkb
  have a6 := h.hk
  have hs : w.heap.size < (w.alloc (.cells #[.func (.func 96) #[] #[.pointer (some ⟨lb, 0, none⟩), .pointer (some ⟨bb, 0, none⟩)]] 136)).heap.size := by simp
  exact ⟨h1.frames.more (by omega), by omega, h1.lc, by omega, h1.bc, h1.og, by omega, h1.kc, by omega, h1.o0, h1.o1, h1.o2, h1.o3, h1.o4, hs, newcell _ _ _ _⟩
theorem busy_start {l : List MFrame} {ab : Nat → Bool} {block : Int} {own : MFrame} (hF : ∀ (k : Nat) (f : MFrame), l[k]? = some f → FOk f) (hO : FOk own) (hl : l.length ≤ 40) (hB : 0 ≤ block) : 1 ≤ busyS l ab block own 1 := by
  unfold busyS
  have h1 := loadTo_bd (ab := ab) (F := manyUp 1) hl (fun k f hf => ⟨manyUp_bd (hF k f hf) (by omega), (hF k f hf).1⟩) l.length (Nat.le_refl _)
  have h2 : 1 ≤ manyUp 1 own := by
    unfold manyUp
    exact (Int.le_ediv_iff_mul_le (by have := hO.2.1.1; omega)).2 (by have := hO.2.2.2.1.1; omega)
  have h3 : 1 * 1 ≤ manyUp 1 own * own.size := Int.mul_le_mul h2 hO.1.1 (by omega) (by omega)
  omega

theorem loadTo_nn {l : List MFrame} {ab : Nat → Bool} {t : Int} (hF : ∀ (k : Nat) (f : MFrame), l[k]? = some f → FOk f) (ht : 0 ≤ t) : ∀ k, k ≤ l.length → 0 ≤ loadTo l ab (manyAt t) k
  | 0, _ => Int.le_refl _
  | k + 1, hk => by
    have h1 := loadTo_nn (ab := ab) hF ht k (by omega)
    have hf : l[k]? = some l[k] := List.getElem?_eq_getElem (by omega)
    have h2 := hF k _ hf
    rw [loadTo_succ hf]
    have h3 : 0 ≤ manyAt t l[k] := by
      unfold manyAt
      have : 0 ≤ (t + l[k].jitter) / l[k].every := Int.ediv_nonneg (by have := h2.2.2.2.1.1; omega) (by have := h2.2.1.1; omega)
      omega
    have h4 : 0 ≤ manyAt t l[k] * l[k].size := Int.mul_nonneg h3 (by have := h2.1.1; omega)
    split <;> omega
theorem longTo_none {l : List MFrame} {ab : Nat → Bool} {block : Int} {own : MFrame} {q : Nat} (h : longTo l ab block own q = none) : ∀ d, longTo l ab block own (q + d) = none
  | 0 => h
  | d + 1 => by rw [← Nat.add_assoc, longTo, longTo_none h d]
theorem longTo_no {l : List MFrame} {ab : Nat → Bool} {block : Int} {own : MFrame} {q : Nat} {m : Int} (h : longTo l ab block own q = some m) (hs : settleS (waitS l ab block own q) 1000002 (block + q * own.size) = none) : longTo l ab block own (q + 1) = none := by
  rw [longTo, h]; simp only [hs]
theorem longTo_yes {l : List MFrame} {ab : Nat → Bool} {block : Int} {own : MFrame} {q : Nat} {m x : Int} (h : longTo l ab block own q = some m) (hs : settleS (waitS l ab block own q) 1000002 (block + q * own.size) = some x) : longTo l ab block own (q + 1) = some (max m (x + own.size + own.jitter - q * own.every)) := by
  rw [longTo, h]; simp only [hs]

set_option maxRecDepth 100000 in
set_option maxHeartbeats 2000000 in
theorem response_any (A : Option Addr) (cap : Nat) (l : List MFrame) (ab : Nat → Bool) (i gb : Nat) (own : MFrame) (w : World) (h : FramesA w w.heap.size A l) (hF : ∀ (k : Nat) (f : MFrame), l[k]? = some f → FOk f) (hl : l.length ≤ 40) (hi : l[i]? = some own) (hil : i < l.length)
    (hG : OwnF w gb 4 l.length (fun j => .bool (ab j))) :
    Calls Try.prog 65 #[.slice A l.length cap, .int .i64 i, .slice (some ⟨gb, 0, none⟩) l.length l.length] w fun e w' => e = .returned (settleV (respS l ab i)) ∧ Below w.heap.size w w' := by
  have hgl := hG.lt
  obtain ⟨own', b, off, hi', hA, hbb, c0, c1, c2, c3, c4⟩ := h.at_ hil
  rw [hi] at hi'
  injection hi' with hi'
  subst hi'
  subst hA
  have HI := Lib.hid hi
  have HF := Lib.hid hF
  have HO := Lib.hid (hF i own hi)
  clear hi hF
  go_enter Try.func65, Try.ntmps65
  go_wp2_with fail
  have hb1 : Below w.heap.size w ((((w.alloc (.cells #[.slice (some ⟨b, off, none⟩) l.length cap] 34)).alloc (.cells #[.slice (some ⟨gb, 0, none⟩) l.length l.length] 89)).alloc (.cells #[.int .i64 own.size, .int .i64 own.every, .int .i64 own.jitter, .int .i64 own.due, .int .i64 own.rank] 41)).alloc (.cells #[.int .i64 0] 3)) :=
    ((((Below.refl _ _).alloc (Nat.le_refl _) _).alloc (by simp) _).alloc (by simp; omega) _).alloc (by simp; omega) _
  have hE : RE0 w.heap.size (some ⟨b, off, none⟩) cap l ab w.heap.size (w.heap.size + 1) gb (w.heap.size + 1 + 1 + 1) (w.heap.size + 1 + 1) 0 own ((((w.alloc (.cells #[.slice (some ⟨b, off, none⟩) l.length cap] 34)).alloc (.cells #[.slice (some ⟨gb, 0, none⟩) l.length l.length] 89)).alloc (.cells #[.int .i64 own.size, .int .i64 own.every, .int .i64 own.jitter, .int .i64 own.due, .int .i64 own.rank] 41)).alloc (.cells #[.int .i64 0] 3)) := by
    refine ⟨h.keep hb1, Nat.le_refl _, by omega, hgl, by omega, by omega, by simp, ?_, ?_, hG.below hb1 hgl, ?_, ?_, ?_, ?_, ?_, ?_, ?_⟩
    all_goals go_simp
  generalize hW : World.alloc _ (Obj.cells #[.int .i64 0] 3) = w4 at *
  clear hW c0 c1 c2 c3 c4 hG
  go_loopw [25] (fun v wr => ∃ k : Nat, k ≤ l.length ∧ v = .int .i64 k ∧ RE0 w.heap.size (some ⟨b, off, none⟩) cap l ab w.heap.size (w.heap.size + 1) gb (w.heap.size + 1 + 1 + 1) (w.heap.size + 1 + 1) (blockTo l ab i k) own wr ∧ Below w.heap.size w wr) (fun v _ => l.length - (intOf v).toNat)
  case atStart => exact ⟨0, Nat.zero_le _, rfl, hE, hb1⟩
  case round =>
    clear hE hb1
    obtain ⟨k, hk, rfl, hE, hbw⟩ := hrel
    have hkb := hE.hk
    by_cases hlt : k < l.length
    · obtain ⟨f, b', off', hf, he, hbb', c0, c1, c2, c3, c4⟩ := hE.frames.at_ hlt
      injection he with he
      injection he with he1 he2
      subst he1
      subst he2
      have hfo := HF.out k f hf
      have hfs := hfo.1
      have hbd := blockTo_bd (ab := ab) (i := i) HF.out k (by omega)
      have HB := Lib.hid (blockTo_succ (ab := ab) (i := i) hf)
      clear hf hfo
      have hb2 : Below (w.heap.size + 4) wr (wr.alloc (.cells #[.int .i64 f.size, .int .i64 f.every, .int .i64 f.jitter, .int .i64 f.due, .int .i64 f.rank] 41)) := (Below.refl _ _).alloc (by omega) _
      have hE2 := hE.below hb2 (by omega)
      have q1 := hE2.bc
      have q2 := hE2.og.cell hlt
      have q3 := hE2.kc
      have q4 := hE2.kf
      generalize blockTo l ab i k = S at *
      by_cases hki : k = i
      · subst hki
        have hk1 : ((k : Int) != (k : Int)) = false := by simp
        go_wp2_with fail
        go_roundw
        case rel => exact ⟨k + 1, by omega, by go_num, by rw [HB.out, if_neg (by simp)]; exact hE2, hbw.trans (hb2.mono (by omega))⟩
        case measure => simp [intOf]; omega
      · have hk1 : ((k : Int) != (i : Int)) = true := by rw [bne_iff_ne]; omega
        rcases hab : ab k
        all_goals
          rw [hab] at q2
          have HAB := Lib.hid hab
          clear hab
          go_wp2_with fail
        · go_roundw
          case rel =>
            refine ⟨k + 1, by omega, by go_num, ?_, hbw.trans ((((Below.refl _ _).setCell (p := ⟨w.heap.size + 1 + 1 + 1, 0, none⟩) (by simp; omega) _).alloc (by simp; omega) _))⟩
            rw [HB.out, if_pos ⟨hki, HAB.out⟩, show max S (f.size - 1) = if S < f.size - 1 then f.size - 1 else S by split <;> omega]
            exact (hE.setK _).below (B := wr.heap.size) ((Below.refl _ _).alloc (by simp) _) hkb
          case measure => simp [intOf]; omega
        · go_roundw
          case rel => exact ⟨k + 1, by omega, by go_num, by rw [HB.out, if_neg (by rw [HAB.out]; simp)]; exact hE2, hbw.trans (hb2.mono (by omega))⟩
          case measure => simp [intOf]; omega
    · obtain rfl : k = l.length := by omega
      have hR := hE.env
      have hBd := blockTo_bd (ab := ab) (i := i) HF.out l.length (Nat.le_refl _)
      have HRES : Hid (respS l ab i = match settleS (busyS l ab (blockTo l ab i l.length) own) 1000002 1 with
          | none => none
          | some busy => longTo l ab (blockTo l ab i l.length) own ((busy + own.jitter + own.every - 1) / own.every).toNat) := by
        have e : l.getD i ⟨0, 0, 0, 0, 0⟩ = own := by rw [List.getD_eq_getElem?_getD, HI.out]; rfl
        show respS l ab i = _
        simp only [respS, e]
        rfl
      generalize blockTo l ab i l.length = bl at *
      have hb3 : Below w.heap.size w (wr.alloc (.cells #[.func (.func 96) #[] #[.pointer (some ⟨w.heap.size, 0, none⟩), .pointer (some ⟨w.heap.size + 1, 0, none⟩)]] 136)) := hbw.trans ((Below.refl _ _).alloc (by omega) _)
      have hst := settle98 1 _ hR HF.out HO.out hl (by omega) (fun a b _ h => busyS_mono HF.out HO.out h) ⟨by omega, busy_start HF.out HO.out hl hBd.1⟩
      have hge : ∀ x, settleS (busyS l ab bl own) 1000002 1 = some x → 1 ≤ x := fun x hx => settle_ge (F := busyS l ab bl own) (n0 := 1) (fun y hy => Int.le_trans (busy_start HF.out HO.out hl hBd.1) (busyS_mono HF.out HO.out hy)) _ _ (Int.le_refl _) hx
      rcases hs : settleS (busyS l ab bl own) 1000002 1 with _ | busy
      · rw [hs] at hst
        have HS := Lib.hid hs
        have HST := Lib.hid hst
        clear hs hst hge
        go_wp2_with (go_at_call 97; refine HST.out.mono ?_; rintro e w7 ⟨rfl, hb7⟩; unfold settleV)
        go_ret2
        exact ⟨by rw [HRES.out, HS.out]; rfl, hb3.trans (hb7.mono hb3.size)⟩
      · rw [hs] at hst
        have hbge := hge _ hs
        have hble := (settle_fix _ _ hs).2
        have HS := Lib.hid hs
        have HST := Lib.hid hst
        clear hs hst hge
        have hoj := HO.out.2.2.2.1
        have hoe := HO.out.2.1
        have hos := HO.out.1
        go_wp2_with (first | (go_at_call 97; refine HST.out.mono ?_; rintro e w7 ⟨rfl, hb7⟩; have hR7 := hR.below hb7; have q1 := hR7.o1; have q2 := hR7.o2; unfold settleV) | (go_at_call 60; refine (up_any _ _ _ (by omega) (by omega) (by omega) (by omega)).mono ?_; rintro e w' ⟨rfl, rfl⟩))
        have hQ : 0 ≤ (busy + own.jitter + own.every - 1) / own.every ∧ (busy + own.jitter + own.every - 1) / own.every ≤ 1300000 := ⟨Int.ediv_nonneg (by omega) (by omega), by have := Int.ediv_le_self (a := busy + own.jitter + own.every - 1) own.every (by omega); omega⟩
        obtain ⟨Q, hQe⟩ : ∃ Q : Nat, (busy + own.jitter + own.every - 1) / own.every = (Q : Int) := ⟨((busy + own.jitter + own.every - 1) / own.every).toNat, by omega⟩
        have HRES2 : Hid (respS l ab i = longTo l ab bl own Q) := by show _ = _; rw [HRES.out, HS.out]; show longTo l ab bl own ((busy + own.jitter + own.every - 1) / own.every).toNat = _; rw [hQe]; rfl
        rw [hQe] at hQ
        rw [hQe]
        clear q1 q2 hQe
        have hb4 := hb3.trans (hb7.mono hb3.size)
        obtain ⟨wo, rfl⟩ : ∃ wo : World, wo = wr := ⟨_, rfl⟩
        go_loopw [15, 61] (fun m v wr => ∃ (q : Nat) (x : Int), q ≤ Q ∧ v = .int .i64 q ∧ m = .int .i64 x ∧ 0 ≤ x ∧ x ≤ 2000000 ∧ Hid (longTo l ab bl own q = some x) ∧ Below w7.heap.size w7 wr) (fun _ v _ => Q - (intOf v).toNat)
        case atStart => exact ⟨0, 0, Nat.zero_le _, rfl, rfl, by omega, by omega, rfl, Below.refl _ _⟩
        case round =>
          obtain ⟨q, x, hq, rfl, rfl, hx0, hx1, HLO, hbw7⟩ := hrel
          have hRw := hR7.below hbw7
          by_cases hlq : q < Q
          · have hb5 : Below wr.heap.size wr (wr.alloc (.cells #[.int .i64 (q : Int)] 3)) := (Below.refl _ _).alloc (Nat.le_refl _) _
            have hRq := hRw.below hb5
            have hmul : 0 ≤ (q : Int) * own.size ∧ (q : Int) * own.size ≤ 1300000000 := by
              constructor
              · exact Int.mul_nonneg (by omega) (by omega)
              · have := Int.mul_le_mul (show (q : Int) ≤ 1300000 by omega) hos.2 (by omega) (by omega)
                omega
            have n0 := newcell wr #[.int .i64 (q : Int)] 3 0
            simp only [List.getElem?_toArray, List.getElem?_cons_zero] at n0
            have hlo : ∀ y, 0 ≤ y → bl + q * own.size ≤ waitS l ab bl own q y := fun y hy => by
              have := loadTo_nn (ab := ab) HF.out hy l.length (Nat.le_refl _)
              unfold waitS
              omega
            have hst := settle100 wr.heap.size (q : Int) (bl + q * own.size) _ hRq (by simp) n0 (by omega) HF.out HO.out hl (by omega) (fun a b _ h => waitS_mono HF.out h) ⟨by omega, hlo _ (by omega)⟩
            have q0 := hRq.kc
            have q1 := hRq.o0
            have HLOW := Lib.hid hlo
            clear hlo
            rcases hs2 : settleS (waitS l ab bl own q) 1000002 (bl + q * own.size) with _ | x2
            · rw [hs2] at hst
              have HS2 := Lib.hid hs2
              have HST2 := Lib.hid hst
              clear hs2 hst
              go_wp2_with (go_at_call 97; refine HST2.out.mono ?_; rintro e w8 ⟨rfl, hb8⟩; unfold settleV)
              go_ret2
              obtain ⟨d, rfl⟩ : ∃ d, Q = q + 1 + d := ⟨Q - (q + 1), by omega⟩
              exact ⟨by rw [HRES2.out, longTo_none (longTo_no HLO.out HS2.out)]; rfl, hb4.trans ((hbw7.trans (hb5.mono hbw7.size)).trans (hb8.mono (by simp; have := hbw7.size; omega)) |>.mono (by have := hb7.size; have := hb3.size; omega))⟩
            · rw [hs2] at hst
              have hxge := settle_ge (F := waitS l ab bl own q) (n0 := bl + q * own.size) (fun y hy => HLOW.out y (by omega)) _ _ (Int.le_refl _) hs2
              have hxle := (settle_fix _ _ hs2).2
              have HS2 := Lib.hid hs2
              have HST2 := Lib.hid hst
              clear hs2 hst
              have hmul2 : 0 ≤ (q : Int) * own.every ∧ (q : Int) * own.every ≤ 130000000000 := by
                constructor
                · exact Int.mul_nonneg (by omega) (by omega)
                · have := Int.mul_le_mul (show (q : Int) ≤ 1300000 by omega) hoe.2 (by omega) (by omega)
                  omega
              go_wp2_with (go_at_call 97; refine HST2.out.mono ?_; rintro e w8 ⟨rfl, hb8⟩; have hR8 := hRq.below hb8; have r0 := hR8.o0; have r1 := hR8.o1; have r2 := hR8.o2; have r3 := (bcell hb8 wr.heap.size 0 (by simp)).trans n0; unfold settleV)
              go_roundw
              case rel =>
                refine ⟨q + 1, max x (x2 + own.size + own.jitter - q * own.every), by omega, by go_num, ?_, by omega, by omega, ?_, (hbw7.trans (hb5.mono hbw7.size)).trans (hb8.mono (by simp; have := hbw7.size; omega))⟩
                · refine int_c ?_
                  split <;> omega
                · show _ = _
                  rw [longTo_yes HLO.out HS2.out]
              case measure => simp [intOf]; omega
          · obtain rfl : q = Q := by omega
            go_wp2_with fail
            go_ret2
            exact ⟨by rw [HRES2.out, HLO.out]; rfl, hb4.trans (hbw7.mono (by have := hb7.size; have := hb3.size; omega))⟩
end Go.Proofs.Ytlbbhlkbhegegaa
