/- Trees of forks in memory, read; the reference's parts. -/
import Derived.Test.YtonpemikodajdaaDoorTp
namespace Go.Proofs.YtonpemikodajdaaDoor
open Go.RowKit

def ForksA (w : World) (B : Nat) (A : Option Addr) (F : List MFork) : Prop :=
  F.length ≤ maxLen ∧ ∃ pv : PV, SlA w B 3 A F.length (forkCell F pv) ∧ ∀ i, i < F.length → ((fk F i).next.length ≤ (pv i).1.2 ∧ IntsA w B (pv i).1.1 (fk F i).next) ∧ ((fk F i).set.length ≤ (pv i).2.2 ∧ IntsA w B (pv i).2.1 (fk F i).set)
theorem ForksA.at_ {w : World} {B : Nat} {A : Option Addr} {F : List MFork} (h : ForksA w B A F) {k : Nat} (hk : k < F.length) :
    ∃ b off An cn As cs, A = some ⟨b, off, none⟩ ∧ b < B ∧ w.cell? ⟨b, off + k * 3, none⟩ = some (.int .i64 (fk F k).test) ∧ w.cell? ⟨b, off + k * 3 + 1, none⟩ = some (.slice An (fk F k).next.length cn) ∧ w.cell? ⟨b, off + k * 3 + 2, none⟩ = some (.slice As (fk F k).set.length cs) ∧
      (fk F k).next.length ≤ cn ∧ IntsA w B An (fk F k).next ∧ (fk F k).set.length ≤ cs ∧ IntsA w B As (fk F k).set := by
  obtain ⟨_, pv, h, hp⟩ := h
  obtain ⟨b, off, hA, hlt, hc⟩ := h (by omega)
  have h0 := hc k 0 hk (by omega)
  have h1 := hc k 1 hk (by omega)
  have h2 := hc k 2 hk (by omega)
  have hp := hp k hk
  exact ⟨b, off, (pv k).1.1, (pv k).1.2, (pv k).2.1, (pv k).2.2, hA, hlt, h0, h1, h2, hp.1.1, hp.1.2, hp.2.1, hp.2.2⟩
theorem ForksA.below {w w' : World} {B B' : Nat} {A : Option Addr} {F : List MFork} (h : ForksA w B A F) (hb : Below B' w w') (hB : B ≤ B') : ForksA w' B' A F := by
  obtain ⟨hl, pv, h, hp⟩ := h
  exact ⟨hl, pv, h.below hb hB, fun i hi => ⟨⟨(hp i hi).1.1, (hp i hi).1.2.below hb hB⟩, (hp i hi).2.1, (hp i hi).2.2.below hb hB⟩⟩
theorem ForksA.more {w : World} {B B' : Nat} {A : Option Addr} {F : List MFork} (h : ForksA w B A F) (hB : B ≤ B') : ForksA w B' A F := by
  obtain ⟨hl, pv, h, hp⟩ := h
  exact ⟨hl, pv, h.more hB, fun i hi => ⟨⟨(hp i hi).1.1, (hp i hi).1.2.more hB⟩, (hp i hi).2.1, (hp i hi).2.2.more hB⟩⟩
theorem ForksA.keep {w w' : World} {B : Nat} {A : Option Addr} {F : List MFork} (h : ForksA w B A F) (hb : Below B w w') : ForksA w' B A F := h.below hb (Nat.le_refl _)
/-- forks of the call's own, read -/
theorem OutK.forks {w : World} {base n cap : Nat} {U : Nat → Prop} {A : Option Addr} {F : List MFork} (h : OutK w base U (.slice A n cap) F) (hl : F.length ≤ maxLen) (hn : ∀ i, i < F.length → (fk F i).next.length ≤ maxLen ∧ (fk F i).set.length ≤ maxLen) : ForksA w w.heap.size A F := by
  have hlt := h.lt
  obtain ⟨pv, h1, h2⟩ := h
  refine ⟨hl, pv, fun hn0 => ?_, fun i hi => ⟨⟨(h2 i hi).nc, (h2 i hi).n.ints (hn i hi).1⟩, (h2 i hi).sc, (h2 i hi).s.ints (hn i hi).2⟩⟩
  rcases id h1.2 with ⟨_, h0⟩ | ⟨g, cap', cur, hv, hg, hb, r⟩
  · omega
  · injection hv with hA hn1 hn2
    subst hA; subst hn1; subst hn2
    refine ⟨g, 0, rfl, (hlt g rfl).2, fun i j hi hj => ?_⟩
    rw [show 0 + i * 3 + j = i * 3 + j by omega, World.ownsRow.cellAt h1 (i * 3 + j) (by omega), forkCells_at (by omega), show (i * 3 + j) / 3 = i by omega, show (i * 3 + j) % 3 = j by omega]
theorem bitsI_pos {m : Nat} (hm : m < 4096) : 0 < (bitsI m).length ↔ 0 < m := by
  rw [bitsI_length]
  constructor
  · intro h
    rcases Nat.eq_zero_or_pos m with e | e
    · rw [e, bitsOf_zero] at h
      cases h
    · exact e
  · intro h
    obtain ⟨j, hj⟩ := Nat.exists_testBit_of_ne_zero (show m ≠ 0 by omega)
    exact List.length_pos_of_mem (mem_bitsOf.2 ⟨bit_lt (n := 12) hm hj, hj⟩)
theorem partsI_len (outs : List Int) (s : Nat) : (partsI outs s).length = 4 := by unfold partsI; simp
set_option maxRecDepth 100000 in
theorem rparts_any (A : Option Addr) (cap : Nat) (outs : List Int) (s : Nat) (w : World) (h : RowsA w w.heap.size A (partsI outs s)) {r : Nat} (hr : partsTo outs s 4 = r) :
    Calls Tryd.prog 99 #[.slice A 4 cap] w fun e w' => e = .returned (.int .i64 r) ∧ Below w.heap.size w w' := by
  have HR := Lib.hid hr
  have HPL := Lib.hid (partsI_len outs s)
  clear hr
  go_enter Tryd.func99, Tryd.ntmps99
  go_wp2_with fail
  go_loopw [4, 3] (fun vi vn wr => ∃ k : Nat, k ≤ 4 ∧ vi = .int .i64 k ∧ vn = .int .i64 (partsTo outs s k) ∧ Below w.heap.size w wr) (fun vi _ _ => 4 - (intOf vi).toNat)
  case atStart => exact ⟨0, Nat.zero_le _, rfl, rfl, Below.refl _ _⟩
  case round =>
    obtain ⟨k, hk, rfl, rfl, hbw⟩ := hrel
    by_cases hlt : k < 4
    · obtain ⟨row, b, off, Ap, cp, hrow, rfl, hbl, t0, _, _⟩ := (h.keep hbw).at_ (show k < (partsI outs s).length by rw [HPL.out]; exact hlt)
      have hrw : row = bitsI (partS outs s k) := by
        have h1 := partsI_at (outs := outs) (s := s) hlt
        rw [List.getD_eq_getElem?_getD, hrow] at h1
        exact h1
      have hle := bitsI_len (partS outs s k)
      have hpos := bitsI_pos (partS_lt outs s k)
      have hPS : partsTo outs s (k + 1) = partsTo outs s k + if 0 < partS outs s k then 1 else 0 := rfl
      have hpl := partsTo_le outs s k
      have HPS := Lib.hid hPS
      rw [hrw] at t0
      have hk4 : (k : Int) < 4 := by omega
      clear hrow hrw hPS
      generalize partsTo outs s k = m at *
      by_cases hp : 0 < partS outs s k
      · have hl : 0 < (bitsI (partS outs s k)).length := hpos.2 hp
        rw [if_pos hp] at HPS
        generalize (bitsI (partS outs s k)).length = q at *
        have hg : decide (0 < (q : Int)) = true := decide_eq_true (by omega)
        clear hpos hp
        go_wp2_with fail
        go_roundw
        case rel => exact ⟨k + 1, by omega, by go_num, by rw [HPS.out]; go_num, hbw⟩
        case measure => simp [intOf]; omega
      · have hl : (bitsI (partS outs s k)).length = 0 := by
          rcases Nat.eq_zero_or_pos (bitsI (partS outs s k)).length with e | e
          · exact e
          · exact absurd (hpos.1 e) hp
        rw [if_neg hp, Nat.add_zero] at HPS
        rw [hl] at t0
        clear hpos hp hl hle
        go_wp2_with fail
        go_roundw
        case rel => exact ⟨k + 1, by omega, by go_num, by rw [HPS.out]; rfl, hbw⟩
        case measure => simp [intOf]; omega
    · have hk4 : ¬ ((k : Int) < 4) := by omega
      go_wp2_with fail
      go_ret
      obtain rfl : k = 4 := by omega
      exact ⟨ret_i (by rw [HR.out]), hbw⟩
end Go.Proofs.YtonpemikodajdaaDoor
