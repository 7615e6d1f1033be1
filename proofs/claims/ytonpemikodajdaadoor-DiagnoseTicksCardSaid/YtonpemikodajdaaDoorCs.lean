/- Cases: plain sets, math/bits.TrailingZeros, cases in memory, CheckCase, weight and split, sameInts. -/
import Derived.Test.YtonpemikodajdaaDoorBa
import Derived.Laws.BitsAllLaws
import Derived.Deep.QuietTactic
/- Plain: sets of suspects as numbers; the best test for a set. -/
namespace Go.Proofs.YtonpemikodajdaaDoor

structure MProbe where
  cost : Int
  outs : List Int
structure MCase where
  weights : List Int
  tests : List MProbe
/-- the suspects of a set, in ascending order -/
def bitsOf (s : Nat) : List Nat := (List.range 12).filter s.testBit
/-- the suspects of a list with an outcome -/
def partL (outs : List Int) (o : Nat) : List Nat → Nat
  | [] => 0
  | i :: r => if outs.getD i 0 = o then 2 ^ i ||| partL outs o r else partL outs o r
def partS (outs : List Int) (s o : Nat) : Nat := partL outs o (bitsOf s)
def partsTo (outs : List Int) (s : Nat) : Nat → Nat
  | 0 => 0
  | o + 1 => partsTo outs s o + if 0 < partS outs s o then 1 else 0
def weightL (ws : List Int) : List Nat → Int
  | [] => 0
  | i :: r => ws.getD i 0 + weightL ws r
def weightS (c : MCase) (s : Nat) : Int := weightL c.weights (bitsOf s)
def costS (B : Nat → Int × Int) (outs : List Int) (s : Nat) (c0 : Int) : Nat → Int
  | 0 => c0
  | o + 1 => if 0 < partS outs s o then costS B outs s c0 o + (B (partS outs s o)).2 else costS B outs s c0 o
/-- the best of the first k tests -/
def pickS (B : Nat → Int × Int) (c : MCase) (s : Nat) : Nat → Int × Int
  | 0 => (-1, 0)
  | k + 1 =>
    if partsTo (c.tests.getD k ⟨0, []⟩).outs s 4 < 2 then pickS B c s k
    else if (pickS B c s k).1 < 0 ∨ costS B (c.tests.getD k ⟨0, []⟩).outs s ((c.tests.getD k ⟨0, []⟩).cost * weightS c s) 4 < (pickS B c s k).2 then ((k : Int), costS B (c.tests.getD k ⟨0, []⟩).outs s ((c.tests.getD k ⟨0, []⟩).cost * weightS c s) 4)
    else pickS B c s k
def bestF (c : MCase) : Nat → Nat → Int × Int
  | 0, _ => (-1, 0)
  | u + 1, s => pickS (bestF c u) c s c.tests.length
def bestS (c : MCase) (s : Nat) : Int × Int := bestF c (s + 1) s
def exC : MCase := ⟨[4, 2, 1], [⟨3, [0, 1, 1]⟩, ⟨1, [0, 0, 1]⟩]⟩
theorem exC_best : bestS exC 7 = (0, 24) := by decide +kernel

theorem mem_bitsOf {s i : Nat} : i ∈ bitsOf s ↔ i < 12 ∧ s.testBit i = true := by
  unfold bitsOf
  rw [List.mem_filter, List.mem_range]
theorem partL_bit (outs : List Int) (o j : Nat) : ∀ l : List Nat, (partL outs o l).testBit j = decide (j ∈ l ∧ outs.getD j 0 = o)
  | [] => by simp [partL]
  | i :: r => by
    rw [partL]
    have ih := partL_bit outs o j r
    by_cases h : outs.getD i 0 = o
    · rw [if_pos h, Nat.testBit_or, ih, Nat.testBit_two_pow]
      by_cases e : i = j
      · subst e
        rw [decide_eq_true rfl, Bool.true_or]
        exact (decide_eq_true ⟨List.mem_cons_self .., h⟩).symm
      · rw [decide_eq_false e, Bool.false_or]
        exact decide_eq_decide.2 ⟨fun ⟨h1, h2⟩ => ⟨List.mem_cons_of_mem _ h1, h2⟩, fun ⟨h1, h2⟩ => ⟨(List.mem_cons.1 h1).resolve_left fun e2 => e e2.symm, h2⟩⟩
    · rw [if_neg h, ih]
      exact decide_eq_decide.2 ⟨fun ⟨h1, h2⟩ => ⟨List.mem_cons_of_mem _ h1, h2⟩, fun ⟨h1, h2⟩ => ⟨(List.mem_cons.1 h1).resolve_left fun e2 => h (e2 ▸ h2), h2⟩⟩
theorem bits_eq {s t : Nat} (hs : s < 4096) (ht : t < 4096) (h : ∀ i, i < 12 → s.testBit i = t.testBit i) : s = t := by
  apply Nat.eq_of_testBit_eq
  intro i
  rcases Nat.lt_or_ge i 12 with h1 | h1
  · exact h i h1
  · have e : 4096 ≤ 2 ^ i := by
      have : 2 ^ 12 ≤ 2 ^ i := Nat.pow_le_pow_right (by omega) h1
      exact this
    rw [Nat.testBit_lt_two_pow (by omega), Nat.testBit_lt_two_pow (by omega)]
theorem partL_lt (outs : List Int) (o : Nat) : ∀ l : List Nat, (∀ i, i ∈ l → i < 12) → partL outs o l < 4096
  | [], _ => by simp [partL]
  | i :: r, h => by
    rw [partL]
    have ih := partL_lt outs o r fun j hj => h j (List.mem_cons_of_mem _ hj)
    by_cases e : outs.getD i 0 = o
    · rw [if_pos e]
      have h1 := h i (List.mem_cons_self ..)
      have : 2 ^ i < 2 ^ 12 := Nat.pow_lt_pow_right (by omega) h1
      exact Nat.or_lt_two_pow (n := 12) this ih
    · rw [if_neg e]; exact ih
theorem partS_lt (outs : List Int) (s o : Nat) : partS outs s o < 4096 := partL_lt outs o _ fun _ hi => (mem_bitsOf.1 hi).1
theorem partS_bit (outs : List Int) (s o j : Nat) (hs : s < 4096) : (partS outs s o).testBit j = (s.testBit j && decide (outs.getD j 0 = o)) := by
  unfold partS
  rw [partL_bit]
  by_cases h : j < 12
  · rcases hb : s.testBit j
    · have : ¬ j ∈ bitsOf s := fun h2 => by have := (mem_bitsOf.1 h2).2; rw [hb] at this; cases this
      simp [this]
    · have : j ∈ bitsOf s := mem_bitsOf.2 ⟨h, hb⟩
      simp [this]
  · have e : 4096 ≤ 2 ^ j := by
      have : 2 ^ 12 ≤ 2 ^ j := Nat.pow_le_pow_right (by omega) (by omega)
      exact this
    rw [Nat.testBit_lt_two_pow (x := s) (by omega)]
    have : ¬ j ∈ bitsOf s := fun h2 => h (mem_bitsOf.1 h2).1
    simp [this]
theorem partS_le {outs : List Int} {s o : Nat} (hs : s < 4096) : partS outs s o ≤ s := by
  have : partS outs s o = partS outs s o &&& s := by
    apply Nat.eq_of_testBit_eq
    intro i
    rw [Nat.testBit_and, partS_bit _ _ _ _ hs]
    cases s.testBit i <;> simp
  rw [this]
  exact Nat.and_le_right
/-- two outcomes that occur: none of them holds all -/
theorem partS_ne {outs : List Int} {s o p : Nat} (hs : s < 4096) (hop : o ≠ p) (hp : 0 < partS outs s p) : partS outs s o < s := by
  rcases Nat.lt_or_eq_of_le (partS_le (outs := outs) (o := o) hs) with h | h
  · exact h
  · exfalso
    have hne : partS outs s p ≠ 0 := by omega
    obtain ⟨j, hj⟩ := Nat.exists_testBit_of_ne_zero hne
    have h1 := partS_bit outs s p j hs
    rw [hj] at h1
    have h2 := partS_bit outs s o j hs
    rw [h] at h2
    rcases hb : s.testBit j
    · rw [hb] at h1; cases h1
    · rw [hb] at h1 h2
      simp at h1 h2
      omega
theorem partsTo_ex {outs : List Int} {s : Nat} : ∀ {k : Nat}, 0 < partsTo outs s k → ∃ p, p < k ∧ 0 < partS outs s p
  | 0, h => by simp [partsTo] at h
  | k + 1, h => by
    rw [partsTo] at h
    by_cases e : 0 < partS outs s k
    · exact ⟨k, by omega, e⟩
    · rw [if_neg e] at h
      obtain ⟨p, hp, h2⟩ := partsTo_ex (outs := outs) (s := s) (k := k) (by omega)
      exact ⟨p, by omega, h2⟩
theorem partsTo_two {outs : List Int} {s o : Nat} : ∀ {k : Nat}, 2 ≤ partsTo outs s k → ∃ p, p < k ∧ p ≠ o ∧ 0 < partS outs s p
  | 0, h => by simp [partsTo] at h
  | k + 1, h => by
    rw [partsTo] at h
    by_cases e : 0 < partS outs s k
    · by_cases e2 : k = o
      · rw [if_pos e] at h
        obtain ⟨p, hp, h2⟩ := partsTo_ex (outs := outs) (s := s) (k := k) (by omega)
        exact ⟨p, by omega, by omega, h2⟩
      · exact ⟨k, by omega, e2, e⟩
    · rw [if_neg e] at h
      obtain ⟨p, hp, h2⟩ := partsTo_two (outs := outs) (s := s) (o := o) (k := k) (by omega)
      exact ⟨p, by omega, h2⟩
theorem costS_congr {B B' : Nat → Int × Int} {outs : List Int} {s : Nat} {c0 : Int} : ∀ {k : Nat}, (∀ o, o < k → B (partS outs s o) = B' (partS outs s o)) → costS B outs s c0 k = costS B' outs s c0 k
  | 0, _ => rfl
  | k + 1, h => by rw [costS, costS, costS_congr (k := k) fun o ho => h o (by omega), h k (by omega)]
theorem pickS_congr {B B' : Nat → Int × Int} {c : MCase} {s : Nat} (hs : s < 4096) (h : ∀ t, t < s → B t = B' t) : ∀ {k : Nat}, pickS B c s k = pickS B' c s k
  | 0 => rfl
  | k + 1 => by
    rw [pickS, pickS, pickS_congr hs h (k := k)]
    by_cases e : partsTo (c.tests.getD k ⟨0, []⟩).outs s 4 < 2
    · rw [if_pos e, if_pos e]
    · rw [if_neg e, if_neg e]
      have : ∀ c0, costS B (c.tests.getD k ⟨0, []⟩).outs s c0 4 = costS B' (c.tests.getD k ⟨0, []⟩).outs s c0 4 := fun c0 => costS_congr fun o _ => by
        obtain ⟨p, _, hp, h2⟩ := partsTo_two (o := o) (show 2 ≤ partsTo (c.tests.getD k ⟨0, []⟩).outs s 4 by omega)
        exact h _ (partS_ne hs (fun e => hp e.symm) h2)
      rw [this]
theorem bestF_enough (c : MCase) : ∀ (s : Nat), s < 4096 → ∀ u, s < u → bestF c u s = bestS c s := by
  intro s
  induction s using Nat.strongRecOn with
  | ind s ih =>
    intro hs u hu
    obtain ⟨v, rfl⟩ : ∃ v, u = v + 1 := ⟨u - 1, by omega⟩
    unfold bestS
    rw [bestF, bestF]
    exact pickS_congr hs fun t ht => by rw [ih t ht (by omega) v (by omega), ih t ht (by omega) s ht]
theorem bestS_eq (c : MCase) {s : Nat} (hs : s < 4096) : bestS c s = pickS (bestS c) c s c.tests.length := by
  unfold bestS
  rw [bestF]
  exact pickS_congr hs fun t ht => bestF_enough c t (by omega) s ht
end Go.Proofs.YtonpemikodajdaaDoor

/- Plain: the table of trailing zeros, held for all small numbers. -/
namespace Go.Proofs.YtonpemikodajdaaDoor
open Go.RowKit

def tabL : List Nat := [0, 1, 56, 2, 57, 49, 28, 3, 61, 58, 42, 50, 38, 29, 17, 4, 62, 47, 59, 36, 45, 43, 51, 22, 53, 39, 33, 30, 24, 18, 12, 5, 63, 55, 48, 27, 60, 41, 37, 16, 46, 35, 44, 21, 52, 32, 23, 11, 54, 26, 40, 15, 34, 20, 31, 10, 25, 14, 19, 9, 13, 8, 7, 6]
/-- the table of the library lies in block 1 -/
def TabW (w : World) : Prop := 1 < w.heap.size ∧ ∀ j, j < 64 → w.cell? ⟨1, j, none⟩ = some (.int .u8 (tabL.getD j 0))
theorem TabW.below {w w' : World} {B : Nat} (h : TabW w) (hb : Below B w w') (hB : 1 < B) : TabW w' :=
  ⟨by have := hb.size; have := h.1; omega, fun j hj => (bcell hb _ _ hB).trans (h.2 j hj)⟩
theorem TabW.keep {w w' : World} (h : TabW w) (hb : Below w.heap.size w w') : TabW w' := ⟨by have := hb.size; have := h.1; omega, fun j hj => (bcell hb _ _ h.1).trans (h.2 j hj)⟩
def tzN (x : Nat) : Nat := (bitsOf x).headD 0
def tzI (x : Nat) : Int := IntKind.u64.wrap (bits BinOp.and IntKind.u64 (x : Int) (IntKind.u64.wrap (-(x : Int))) * 285870213051353865) / 288230376151711744
def tzOk (x : Nat) : Bool := x == 0 || (decide (0 ≤ tzI x ∧ tzI x < 64) && tabL.getD (tzI x).toNat 0 == tzN x && bitsOf x == tzN x :: bitsOf (x &&& (x - 1)) && decide (x &&& (x - 1) < x) && decide (bits BinOp.and IntKind.u64 (x : Int) ((x : Int) - 1) = ((x &&& (x - 1) : Nat) : Int)))
theorem tz_all : (List.range 4096).all tzOk = true := by decide +kernel
end Go.Proofs.YtonpemikodajdaaDoor

/- Walks: math/bits.TrailingZeros for small numbers; the list of a set. -/
namespace Go.Proofs.YtonpemikodajdaaDoor
open Go.RowKit

theorem tz_at {x : Nat} (h0 : 0 < x) (h1 : x < 4096) : (0 ≤ tzI x ∧ tzI x < 64) ∧ tabL.getD (tzI x).toNat 0 = tzN x ∧ bitsOf x = tzN x :: bitsOf (x &&& (x - 1)) ∧ x &&& (x - 1) < x ∧ bits BinOp.and IntKind.u64 (x : Int) ((x : Int) - 1) = ((x &&& (x - 1) : Nat) : Int) := by
  have h := List.all_eq_true.1 tz_all x (List.mem_range.2 h1)
  unfold tzOk at h
  simp only [Bool.or_eq_true, Bool.and_eq_true, beq_iff_eq, decide_eq_true_eq] at h
  rcases h with h | ⟨⟨⟨⟨h1, h2⟩, h3⟩, h4⟩, h5⟩
  · omega
  · exact ⟨h1, h2, h3, h4, h5⟩
theorem tzN_lt {x : Nat} (h0 : 0 < x) (h1 : x < 4096) : tzN x < 12 := by
  have h := (tz_at h0 h1).2.2.1
  have : tzN x ∈ bitsOf x := by rw [h]; exact List.mem_cons_self ..
  exact (mem_bitsOf.1 this).1
theorem tz64 (x : Nat) (w : World) (h0 : 0 < x) (h1 : x < 4096) (hT : TabW w) :
    Calls Tryd.prog 118 #[.int .u64 x] w fun e w' => e = .returned (.int .i64 (tzN x)) ∧ w = w' := by
  obtain ⟨hi, htab, _⟩ := tz_at h0 h1
  have hc := hT.2 (tzI x).toNat (by omega)
  rw [htab] at hc
  have hx0 : ((x : Int) == 0) = false := by rw [beq_eq_false_iff_ne]; omega
  unfold tzI at hi hc
  have hi0 := hi.1
  have hlt := tzN_lt h0 h1
  have hi1 := hi.2
  clear htab hi
  go_enter Tryd.func118, Tryd.ntmps118
  go_wp2_with fail
  go_ret
  exact ⟨rfl, rfl⟩
theorem tz_any (x : Nat) (w : World) (h0 : 0 < x) (h1 : x < 4096) (hT : TabW w) :
    Calls Tryd.prog 103 #[.int .u64 x] w fun e w' => e = .returned (.int .i64 (tzN x)) ∧ w = w' := by
  have HC := Lib.hid (tz64 x w h0 h1 hT)
  go_enter Tryd.func103, Tryd.ntmps103
  go_wp2_with (go_at_call 118; refine HC.out.mono ?_; rintro e w' ⟨rfl, rfl⟩)
  go_ret
  exact ⟨rfl, rfl⟩
/-- a set as a list of ints -/
def bitsI (s : Nat) : List Int := (bitsOf s).map fun (i : Nat) => (i : Int)
theorem bitsOf_zero : bitsOf 0 = [] := by decide
theorem bitsOf_len (s : Nat) : (bitsOf s).length ≤ 12 := by
  unfold bitsOf
  exact Nat.le_trans (List.length_filter_le _ _) (by simp)
theorem bitsI_len (s : Nat) : (bitsI s).length ≤ 12 := by unfold bitsI; rw [List.length_map]; exact bitsOf_len s
set_option maxRecDepth 100000 in
theorem list_any (s : Nat) (w : World) (hs : s < 4096) (hT : TabW w) :
    Calls Tryd.prog 65 #[.int .u64 s] w fun e w' => ∃ v, e = .returned v ∧ OutI w' w.heap.size v (bitsI s) ∧ Below w.heap.size w w' := by
  have HT := Lib.hid hT.1
  go_enter Tryd.func65, Tryd.ntmps65
  go_wp2_with fail
  go_loopw [0, 2] (fun vs v wr => ∃ (t : Nat) (L : List Int), t ≤ s ∧ vs = .int .u64 t ∧ Hid (L ++ bitsI t = bitsI s) ∧ OutI wr w.heap.size v L ∧ Below w.heap.size w wr) (fun vs _ _ => (intOf vs).toNat)
  case atStart => exact ⟨s, [], Nat.le_refl _, rfl, rfl, OutI.nil _ _, Below.refl _ _⟩
  case round =>
    obtain ⟨t, L, ht, rfl, HL, hO, hbw⟩ := hrel
    by_cases h0 : 0 < t
    · obtain ⟨_, _, hb, hlt, hand⟩ := tz_at h0 (by omega)
      have hle : L.length ≤ 12 := by
        have h1 := congrArg List.length HL.out
        rw [List.length_append] at h1
        have := bitsI_len s
        omega
      have HB : Hid (L ++ [(tzN t : Int)] ++ bitsI (t &&& (t - 1)) = bitsI s) := by
        show _ = _
        rw [← HL.out]
        unfold bitsI
        rw [hb, List.map_cons, List.append_assoc]
        rfl
      have HLT := Lib.hid hlt
      clear hb hlt
      have hTw := hT.keep hbw
      go_wp2_with (first | (go_at_call 103; refine (tz_any t _ h0 (by omega) hTw).mono ?_; rintro e w' ⟨rfl, rfl⟩) | (at_builtin; refine app_int _ rfl _ _ rfl w.heap.size _ L rfl (World.ownsRow.alloc hO _) _ _ rfl (newcell _ _ _ _) (by omega) (by simp; have := hbw.size; omega) ?_; intro v6 w6 hO6 hg6))
      go_roundw
      case rel => exact ⟨t &&& (t - 1), L ++ [(tzN t : Int)], by have := HLT.out; omega, rfl, HB.out, hO6, (hbw.alloc hbw.size _).grown hg6 (by simp; have := hbw.size; omega) (fun k hk => (own_block_lt hO k hk).1)⟩
      case measure => have := HLT.out; simp [intOf]; omega
    · obtain rfl : t = 0 := by omega
      go_wp2_with fail
      go_ret
      exact ⟨_, rfl, by rw [← HL.out]; unfold bitsI; rw [bitsOf_zero, List.map_nil, List.append_nil]; exact hO, hbw⟩
end Go.Proofs.YtonpemikodajdaaDoor

/- Cases as plain data, and what they read as in memory; when a case is valid. -/
namespace Go.Proofs.YtonpemikodajdaaDoor
open Go.RowKit

theorem SlA.more {w : World} {B B' size n : Nat} {A : Option Addr} {f : Nat → Nat → Value} (h : SlA w B size A n f) (hB : B ≤ B') : SlA w B' size A n f := fun hn => by
  obtain ⟨b, off, hA, hlt, hc⟩ := h hn
  exact ⟨b, off, hA, by omega, hc⟩
def probeCell (l : List MProbe) (pv : Nat → Option Addr × Nat) (i j : Nat) : Value :=
  if j = 0 then .int .i64 (l.getD i ⟨0, []⟩).cost else .slice (pv i).1 (l.getD i ⟨0, []⟩).outs.length (pv i).2
def ProbesA (w : World) (B : Nat) (A : Option Addr) (l : List MProbe) : Prop :=
  ∃ pv : Nat → Option Addr × Nat, SlA w B 2 A l.length (probeCell l pv) ∧ ∀ i, i < l.length → (l.getD i ⟨0, []⟩).outs.length ≤ (pv i).2 ∧ IntsA w B (pv i).1 (l.getD i ⟨0, []⟩).outs
theorem ProbesA.at_ {w : World} {B : Nat} {A : Option Addr} {l : List MProbe} (h : ProbesA w B A l) {k : Nat} (hk : k < l.length) :
    ∃ f b off Ap cp, l[k]? = some f ∧ A = some ⟨b, off, none⟩ ∧ b < B ∧ w.cell? ⟨b, off + k * 2, none⟩ = some (.int .i64 f.cost) ∧
      w.cell? ⟨b, off + k * 2 + 1, none⟩ = some (.slice Ap f.outs.length cp) ∧ f.outs.length ≤ cp ∧ IntsA w B Ap f.outs := by
  obtain ⟨pv, h, hp⟩ := h
  obtain ⟨b, off, hA, hlt, hc⟩ := h (by omega)
  refine ⟨l[k], b, off, (pv k).1, (pv k).2, List.getElem?_eq_getElem hk, hA, hlt, ?_, ?_, ?_⟩
  · have := hc k 0 hk (by omega)
    simpa [probeCell, hk] using this
  · have := hc k 1 hk (by omega)
    simpa [probeCell, hk] using this
  · have := hp k hk
    simpa [hk] using this
theorem ProbesA.below {w w' : World} {B B' : Nat} {A : Option Addr} {l : List MProbe} (h : ProbesA w B A l) (hb : Below B' w w') (hB : B ≤ B') : ProbesA w' B' A l := by
  obtain ⟨pv, h, hp⟩ := h
  exact ⟨pv, h.below hb hB, fun i hi => ⟨(hp i hi).1, (hp i hi).2.below hb hB⟩⟩
theorem ProbesA.more {w : World} {B B' : Nat} {A : Option Addr} {l : List MProbe} (h : ProbesA w B A l) (hB : B ≤ B') : ProbesA w B' A l := by
  obtain ⟨pv, h, hp⟩ := h
  exact ⟨pv, h.more hB, fun i hi => ⟨(hp i hi).1, (hp i hi).2.more hB⟩⟩
/-- a case as a value's two slices -/
structure CaseA (w : World) (B : Nat) (A1 A2 : Option Addr) (c : MCase) : Prop where
  ws : IntsA w B A1 c.weights
  ln : c.tests.length ≤ maxLen
  ts : ProbesA w B A2 c.tests
theorem CaseA.below {w w' : World} {B B' : Nat} {A1 A2 : Option Addr} {c : MCase} (h : CaseA w B A1 A2 c) (hb : Below B' w w') (hB : B ≤ B') : CaseA w' B' A1 A2 c := ⟨h.ws.below hb hB, h.ln, h.ts.below hb hB⟩
theorem CaseA.more {w : World} {B B' : Nat} {A1 A2 : Option Addr} {c : MCase} (h : CaseA w B A1 A2 c) (hB : B ≤ B') : CaseA w B' A1 A2 c := ⟨h.ws.more hB, h.ln, h.ts.more hB⟩
theorem CaseA.keep {w w' : World} {B : Nat} {A1 A2 : Option Addr} {c : MCase} (h : CaseA w B A1 A2 c) (hb : Below B w w') : CaseA w' B A1 A2 c := h.below hb (Nat.le_refl _)
theorem IntsA.keep {w w' : World} {B : Nat} {A : Option Addr} {l : List Int} (h : IntsA w B A l) (hb : Below B w w') : IntsA w' B A l := h.below hb (Nat.le_refl _)

def inB (n lo hi : Int) : Bool := decide (lo ≤ n) && decide (n ≤ hi)
theorem inB_iff' {n lo hi : Int} : inB n lo hi = true ↔ lo ≤ n ∧ n ≤ hi := by simp [inB]
theorem upto_snoc {α : Type} {l : List α} {p : α → Bool} {k : Nat} {g : α} (hi : ∀ j x, j < k → l[j]? = some x → p x = true) (hg : l[k]? = some g) (hp : p g = true) : ∀ j x, j < k + 1 → l[j]? = some x → p x = true := fun j x hj hx => by
  rcases Nat.lt_or_ge j k with h | h
  · exact hi j x h hx
  · have : j = k := by omega
    subst this
    rw [hg] at hx
    injection hx with hx
    subst hx
    exact hp
theorem nat_snoc {p : Nat → Prop} {k : Nat} (hi : ∀ j, j < k → p j) (hp : p k) : ∀ j, j < k + 1 → p j := fun j hj => by
  rcases Nat.lt_or_ge j k with h | h
  · exact hi j h
  · have : j = k := by omega
    subst this
    exact hp
theorem all_yes {α : Type} {l : List α} {p : α → Bool} (h : ∀ j g, j < l.length → l[j]? = some g → p g = true) : l.all p = true := by
  rw [List.all_eq_true]
  intro x hx
  obtain ⟨j, hj, rfl⟩ := List.mem_iff_getElem.1 hx
  exact h j _ hj (List.getElem?_eq_getElem hj)
theorem all_no {α : Type} {l : List α} {p : α → Bool} {k : Nat} {g : α} (h : l[k]? = some g) (hp : p g = false) : l.all p = false := by
  rw [List.all_eq_false]
  exact ⟨g, List.mem_of_getElem? h, by simp [hp]⟩
def b1000 (x : Int) : Bool := inB x 0 1000
def b3 (x : Int) : Bool := inB x 0 3
def bMil (x : Int) : Bool := inB x (-1000000) 1000000
def probeB (n : Nat) (t : MProbe) : Bool := b1000 t.cost && (decide (t.outs.length = n) && t.outs.all b3)
def caseB (c : MCase) : Bool := inB c.weights.length 1 12 && (decide (c.tests.length ≤ 12) && (c.weights.all b1000 && c.tests.all (probeB c.weights.length)))
structure CaseOk (c : MCase) : Prop where
  n1 : 1 ≤ c.weights.length
  n2 : c.weights.length ≤ 12
  t : c.tests.length ≤ 12
  w : ∀ k, k < c.weights.length → 0 ≤ c.weights.getD k 0 ∧ c.weights.getD k 0 ≤ 1000
  p : ∀ (k : Nat) (t : MProbe), c.tests[k]? = some t → (0 ≤ t.cost ∧ t.cost ≤ 1000) ∧ t.outs.length = c.weights.length ∧ ∀ i, i < t.outs.length → 0 ≤ t.outs.getD i 0 ∧ t.outs.getD i 0 ≤ 3
theorem all_at {l : List Int} {p : Int → Bool} (h : l.all p = true) {k : Nat} (hk : k < l.length) : p (l.getD k 0) = true := by
  rw [List.all_eq_true] at h
  rw [List.getD_eq_getElem?_getD, List.getElem?_eq_getElem hk]
  exact h _ (List.getElem_mem _)
theorem caseOk {c : MCase} (h : caseB c = true) : CaseOk c := by
  unfold caseB at h
  simp only [Bool.and_eq_true, decide_eq_true_eq, inB_iff'] at h
  obtain ⟨⟨h1, h2⟩, h3, h4, h5⟩ := h
  refine ⟨by omega, by omega, h3, fun k hk => inB_iff'.1 (all_at h4 hk), fun k t ht => ?_⟩
  rw [List.all_eq_true] at h5
  have h6 := h5 t (List.mem_of_getElem? ht)
  unfold probeB at h6
  simp only [Bool.and_eq_true, decide_eq_true_eq] at h6
  exact ⟨inB_iff'.1 h6.1, h6.2.1, fun i hi => inB_iff'.1 (all_at h6.2.2 hi)⟩
end Go.Proofs.YtonpemikodajdaaDoor

/- Walks: within; ContainsFunc over ints at the closures of this package. -/
namespace Go.Proofs.YtonpemikodajdaaDoor
open Go.RowKit

/-- where a test holds first, told by its sign -/
def IdxB (i : Int) (b : Bool) : Prop := 0 ≤ i ↔ b = false
theorem within_any (n lo hi : Int) (w : World) :
    Calls Tryd.prog 66 #[.int .i64 n, .int .i64 lo, .int .i64 hi] w fun e w' => e = .returned (.bool (inB n lo hi)) ∧ w = w' := by
  go_enter Tryd.func66, Tryd.ntmps66
  go_wp2
  all_goals (go_ret; refine ⟨ret_b ?_, rfl⟩; simp [inB]; try omega)
theorem rwithin_any (n lo hi : Int) (w : World) :
    Calls Tryd.prog 63 #[.int .i64 n, .int .i64 lo, .int .i64 hi] w fun e w' => e = .returned (.bool (inB n lo hi)) ∧ w = w' := by
  go_enter Tryd.func63, Tryd.ntmps63
  go_wp2
  all_goals (go_ret; refine ⟨ret_b ?_, rfl⟩; simp [inB]; try omega)
theorem within_b (n lo hi : Int) (b : Bool) (w : World) (h : inB n lo hi = b) :
    Calls Tryd.prog 66 #[.int .i64 n, .int .i64 lo, .int .i64 hi] w fun e w' => e = .returned (.bool b) ∧ w = w' := h ▸ within_any n lo hi w
theorem rwithin_b (n lo hi : Int) (b : Bool) (w : World) (h : inB n lo hi = b) :
    Calls Tryd.prog 63 #[.int .i64 n, .int .i64 lo, .int .i64 hi] w fun e w' => e = .returned (.bool b) ∧ w = w' := h ▸ rwithin_any n lo hi w

theorem clo68 (x : Int) (w : World) {r : Bool} (hr : b1000 x = r) : Calls Tryd.prog 68 #[.int .i64 x] w fun e w' => e = .returned (.bool !r) ∧ w = w' := by
  have hr' : inB x 0 1000 = r := hr
  rcases r with _ | _
  all_goals
    have HR := Lib.hid hr'
    clear hr hr'
    go_enter Tryd.func68, Tryd.ntmps68
    go_wp2_with (go_at_call 66; refine (within_b x _ _ _ _ HR.out).mono ?_; rintro e w' ⟨rfl, rfl⟩)
    go_ret
    exact ⟨rfl, rfl⟩
set_option maxHeartbeats 1000000 in
theorem idx68 (O : Option Addr) (cap : Nat) (os : List Int) (w : World) (B : Nat) (h : IntsA w B O os) :
    Calls Tryd.prog 104 #[.slice O os.length cap, .func (.func 68) #[] #[]] w fun e w' => (∃ i : Int, e = .returned (.int .i64 i) ∧ IdxB i (os.all b1000)) ∧ w = w' := by
  have hlen := h.1
  unfold maxLen at hlen
  go_enter Tryd.func104, Tryd.ntmps104
  go_wp2_with fail
  go_loop [8] (fun i => ∃ k : Nat, k ≤ os.length ∧ i = .int .i64 k ∧ Hid (∀ j, j < k → b1000 (os.getD j 0) = true)) (fun i => os.length - (intOf i).toNat)
  case atStart => exact ⟨0, Nat.zero_le _, rfl, fun j hj => by omega⟩
  case round =>
    obtain ⟨k, hk, rfl, HI⟩ := hrel
    by_cases hlt : k < os.length
    · obtain ⟨b, off, rfl, hb, hc⟩ := h.at_ hlt
      have hg : os.getD k 0 = os[k] := by rw [List.getD_eq_getElem?_getD, List.getElem?_eq_getElem hlt]; rfl
      have HG := Lib.hid hg
      clear hg
      rcases hx : b1000 (os.getD k 0)
      all_goals
        have HX := Lib.hid hx
        generalize hov : os.getD k 0 = ov at *
        have HC := Lib.hid (clo68 ov w hx)
        have HOV := Lib.hid hov
        clear hx hov
        go_wp2_with (go_at_call 68; refine HC.out.mono ?_; rintro e w2 ⟨rfl, rfl⟩)
      · go_ret
        refine ⟨⟨k, rfl, ⟨fun _ => ?_, fun _ => by omega⟩⟩, rfl⟩
        rw [List.all_eq_false]
        exact ⟨os[k], List.getElem_mem _, by rw [← HG.out]; simp [HX.out]⟩
      · go_round
        case rel => exact ⟨k + 1, by omega, by go_num, nat_snoc HI.out (by rw [HOV.out]; exact HX.out)⟩
        case measure => simp [intOf]; omega
    · obtain rfl : k = os.length := by omega
      go_wp2_with fail
      go_ret
      refine ⟨⟨-1, rfl, ⟨fun h => by omega, fun h => ?_⟩⟩, rfl⟩
      rw [List.all_eq_false] at h
      obtain ⟨x, hx, hn⟩ := h
      obtain ⟨j, hj, rfl⟩ := List.mem_iff_getElem.1 hx
      have := HI.out j hj
      rw [List.getD_eq_getElem?_getD, List.getElem?_eq_getElem hj] at this
      exact absurd this hn
theorem con68 (O : Option Addr) (cap : Nat) (os : List Int) (w : World) (B : Nat) (h : IntsA w B O os) {b : Bool} (he : os.all b1000 = b) :
    Calls Tryd.prog 67 #[.slice O os.length cap, .func (.func 68) #[] #[]] w fun e w' => e = .returned (.bool !b) ∧ w = w' := by
  have HC := Lib.hid (idx68 O cap os w B h)
  have HE := Lib.hid he
  clear he
  go_enter Tryd.func67, Tryd.ntmps67
  go_wp2_with (go_at_call 104; refine HC.out.mono ?_; rintro e w2 ⟨⟨i, rfl, hi⟩, rfl⟩; have HI := Lib.hid hi; clear hi)
  go_ret
  refine ⟨ret_b ?_, rfl⟩
  rcases b with _ | _
  · exact decide_eq_true (HI.out.2 HE.out)
  · exact decide_eq_false fun h => by have := HI.out.1 h; rw [HE.out] at this; cases this

theorem clo69 (x : Int) (w : World) {r : Bool} (hr : b3 x = r) : Calls Tryd.prog 69 #[.int .i64 x] w fun e w' => e = .returned (.bool !r) ∧ w = w' := by
  have hr' : inB x 0 3 = r := hr
  rcases r with _ | _
  all_goals
    have HR := Lib.hid hr'
    clear hr hr'
    go_enter Tryd.func69, Tryd.ntmps69
    go_wp2_with (go_at_call 66; refine (within_b x _ _ _ _ HR.out).mono ?_; rintro e w' ⟨rfl, rfl⟩)
    go_ret
    exact ⟨rfl, rfl⟩
set_option maxHeartbeats 1000000 in
theorem idx69 (O : Option Addr) (cap : Nat) (os : List Int) (w : World) (B : Nat) (h : IntsA w B O os) :
    Calls Tryd.prog 104 #[.slice O os.length cap, .func (.func 69) #[] #[]] w fun e w' => (∃ i : Int, e = .returned (.int .i64 i) ∧ IdxB i (os.all b3)) ∧ w = w' := by
  have hlen := h.1
  unfold maxLen at hlen
  go_enter Tryd.func104, Tryd.ntmps104
  go_wp2_with fail
  go_loop [8] (fun i => ∃ k : Nat, k ≤ os.length ∧ i = .int .i64 k ∧ Hid (∀ j, j < k → b3 (os.getD j 0) = true)) (fun i => os.length - (intOf i).toNat)
  case atStart => exact ⟨0, Nat.zero_le _, rfl, fun j hj => by omega⟩
  case round =>
    obtain ⟨k, hk, rfl, HI⟩ := hrel
    by_cases hlt : k < os.length
    · obtain ⟨b, off, rfl, hb, hc⟩ := h.at_ hlt
      have hg : os.getD k 0 = os[k] := by rw [List.getD_eq_getElem?_getD, List.getElem?_eq_getElem hlt]; rfl
      have HG := Lib.hid hg
      clear hg
      rcases hx : b3 (os.getD k 0)
      all_goals
        have HX := Lib.hid hx
        generalize hov : os.getD k 0 = ov at *
        have HC := Lib.hid (clo69 ov w hx)
        have HOV := Lib.hid hov
        clear hx hov
        go_wp2_with (go_at_call 69; refine HC.out.mono ?_; rintro e w2 ⟨rfl, rfl⟩)
      · go_ret
        refine ⟨⟨k, rfl, ⟨fun _ => ?_, fun _ => by omega⟩⟩, rfl⟩
        rw [List.all_eq_false]
        exact ⟨os[k], List.getElem_mem _, by rw [← HG.out]; simp [HX.out]⟩
      · go_round
        case rel => exact ⟨k + 1, by omega, by go_num, nat_snoc HI.out (by rw [HOV.out]; exact HX.out)⟩
        case measure => simp [intOf]; omega
    · obtain rfl : k = os.length := by omega
      go_wp2_with fail
      go_ret
      refine ⟨⟨-1, rfl, ⟨fun h => by omega, fun h => ?_⟩⟩, rfl⟩
      rw [List.all_eq_false] at h
      obtain ⟨x, hx, hn⟩ := h
      obtain ⟨j, hj, rfl⟩ := List.mem_iff_getElem.1 hx
      have := HI.out j hj
      rw [List.getD_eq_getElem?_getD, List.getElem?_eq_getElem hj] at this
      exact absurd this hn
theorem con69 (O : Option Addr) (cap : Nat) (os : List Int) (w : World) (B : Nat) (h : IntsA w B O os) {b : Bool} (he : os.all b3 = b) :
    Calls Tryd.prog 67 #[.slice O os.length cap, .func (.func 69) #[] #[]] w fun e w' => e = .returned (.bool !b) ∧ w = w' := by
  have HC := Lib.hid (idx69 O cap os w B h)
  have HE := Lib.hid he
  clear he
  go_enter Tryd.func67, Tryd.ntmps67
  go_wp2_with (go_at_call 104; refine HC.out.mono ?_; rintro e w2 ⟨⟨i, rfl, hi⟩, rfl⟩; have HI := Lib.hid hi; clear hi)
  go_ret
  refine ⟨ret_b ?_, rfl⟩
  rcases b with _ | _
  · exact decide_eq_true (HI.out.2 HE.out)
  · exact decide_eq_false fun h => by have := HI.out.1 h; rw [HE.out] at this; cases this

theorem clo87 (x : Int) (w : World) {r : Bool} (hr : bMil x = r) : Calls Tryd.prog 87 #[.int .i64 x] w fun e w' => e = .returned (.bool !r) ∧ w = w' := by
  have hr' : inB x (-1000000) 1000000 = r := hr
  rcases r with _ | _
  all_goals
    have HR := Lib.hid hr'
    clear hr hr'
    go_enter Tryd.func87, Tryd.ntmps87
    go_wp2_with (go_at_call 66; refine (within_b x _ _ _ _ HR.out).mono ?_; rintro e w' ⟨rfl, rfl⟩)
    go_ret
    exact ⟨rfl, rfl⟩
set_option maxHeartbeats 1000000 in
theorem idx87 (O : Option Addr) (cap : Nat) (os : List Int) (w : World) (B : Nat) (h : IntsA w B O os) :
    Calls Tryd.prog 104 #[.slice O os.length cap, .func (.func 87) #[] #[]] w fun e w' => (∃ i : Int, e = .returned (.int .i64 i) ∧ IdxB i (os.all bMil)) ∧ w = w' := by
  have hlen := h.1
  unfold maxLen at hlen
  go_enter Tryd.func104, Tryd.ntmps104
  go_wp2_with fail
  go_loop [8] (fun i => ∃ k : Nat, k ≤ os.length ∧ i = .int .i64 k ∧ Hid (∀ j, j < k → bMil (os.getD j 0) = true)) (fun i => os.length - (intOf i).toNat)
  case atStart => exact ⟨0, Nat.zero_le _, rfl, fun j hj => by omega⟩
  case round =>
    obtain ⟨k, hk, rfl, HI⟩ := hrel
    by_cases hlt : k < os.length
    · obtain ⟨b, off, rfl, hb, hc⟩ := h.at_ hlt
      have hg : os.getD k 0 = os[k] := by rw [List.getD_eq_getElem?_getD, List.getElem?_eq_getElem hlt]; rfl
      have HG := Lib.hid hg
      clear hg
      rcases hx : bMil (os.getD k 0)
      all_goals
        have HX := Lib.hid hx
        generalize hov : os.getD k 0 = ov at *
        have HC := Lib.hid (clo87 ov w hx)
        have HOV := Lib.hid hov
        clear hx hov
        go_wp2_with (go_at_call 87; refine HC.out.mono ?_; rintro e w2 ⟨rfl, rfl⟩)
      · go_ret
        refine ⟨⟨k, rfl, ⟨fun _ => ?_, fun _ => by omega⟩⟩, rfl⟩
        rw [List.all_eq_false]
        exact ⟨os[k], List.getElem_mem _, by rw [← HG.out]; simp [HX.out]⟩
      · go_round
        case rel => exact ⟨k + 1, by omega, by go_num, nat_snoc HI.out (by rw [HOV.out]; exact HX.out)⟩
        case measure => simp [intOf]; omega
    · obtain rfl : k = os.length := by omega
      go_wp2_with fail
      go_ret
      refine ⟨⟨-1, rfl, ⟨fun h => by omega, fun h => ?_⟩⟩, rfl⟩
      rw [List.all_eq_false] at h
      obtain ⟨x, hx, hn⟩ := h
      obtain ⟨j, hj, rfl⟩ := List.mem_iff_getElem.1 hx
      have := HI.out j hj
      rw [List.getD_eq_getElem?_getD, List.getElem?_eq_getElem hj] at this
      exact absurd this hn
theorem con87 (O : Option Addr) (cap : Nat) (os : List Int) (w : World) (B : Nat) (h : IntsA w B O os) {b : Bool} (he : os.all bMil = b) :
    Calls Tryd.prog 67 #[.slice O os.length cap, .func (.func 87) #[] #[]] w fun e w' => e = .returned (.bool !b) ∧ w = w' := by
  have HC := Lib.hid (idx87 O cap os w B h)
  have HE := Lib.hid he
  clear he
  go_enter Tryd.func67, Tryd.ntmps67
  go_wp2_with (go_at_call 104; refine HC.out.mono ?_; rintro e w2 ⟨⟨i, rfl, hi⟩, rfl⟩; have HI := Lib.hid hi; clear hi)
  go_ret
  refine ⟨ret_b ?_, rfl⟩
  rcases b with _ | _
  · exact decide_eq_true (HI.out.2 HE.out)
  · exact decide_eq_false fun h => by have := HI.out.1 h; rw [HE.out] at this; cases this
end Go.Proofs.YtonpemikodajdaaDoor

/- Walks: diagnose.CheckCase. -/
namespace Go.Proofs.YtonpemikodajdaaDoor
open Go.RowKit

def checkC (c : MCase) : Int := if caseB c = true then 0 else 101
theorem checkC_no {c : MCase} (h : caseB c = false) : checkC c = 101 := by unfold checkC; rw [h]; rfl
theorem checkC_yes {c : MCase} (h : caseB c = true) : checkC c = 0 := by unfold checkC; rw [h]; rfl
theorem caseB_len {c : MCase} (h : inB c.weights.length 1 12 = false) : caseB c = false := by unfold caseB; rw [h]; rfl
theorem caseB_many {c : MCase} (h : 12 < c.tests.length) : caseB c = false := by unfold caseB; rw [decide_eq_false (by omega)]; simp
theorem caseB_ws {c : MCase} (h : c.weights.all b1000 = false) : caseB c = false := by unfold caseB; rw [h]; simp
theorem caseB_ts {c : MCase} {k : Nat} {t : MProbe} (hk : c.tests[k]? = some t) (h : probeB c.weights.length t = false) : caseB c = false := by
  unfold caseB; rw [all_no hk h]; simp
theorem caseB_yes {c : MCase} (h1 : inB c.weights.length 1 12 = true) (h2 : c.tests.length ≤ 12) (h3 : c.weights.all b1000 = true) (h4 : ∀ (j : Nat) (t : MProbe), j < c.tests.length → c.tests[j]? = some t → probeB c.weights.length t = true) : caseB c = true := by
  unfold caseB; rw [h1, h3, decide_eq_true h2, all_yes h4]; rfl
theorem probeB_cost {n : Nat} {t : MProbe} (h : inB t.cost 0 1000 = false) : probeB n t = false := by
  have : b1000 t.cost = false := h
  unfold probeB; rw [this]; rfl
theorem probeB_len {n : Nat} {t : MProbe} (h : t.outs.length ≠ n) : probeB n t = false := by unfold probeB; rw [decide_eq_false h]; simp
theorem probeB_outs {n : Nat} {t : MProbe} (h : t.outs.all b3 = false) : probeB n t = false := by unfold probeB; rw [h]; simp
theorem probeB_yes {n : Nat} {t : MProbe} (h1 : inB t.cost 0 1000 = true) (h2 : t.outs.length = n) (h3 : t.outs.all b3 = true) : probeB n t = true := by
  have : b1000 t.cost = true := h1
  unfold probeB; rw [this, h3, decide_eq_true h2]; rfl
set_option maxRecDepth 100000 in
set_option maxHeartbeats 1000000 in
theorem check_any (A1 A2 : Option Addr) (c1 c2 : Nat) (c : MCase) (w : World) (h : CaseA w w.heap.size A1 A2 c) {r : Int} (hr : checkC c = r) :
    Calls Tryd.prog 27 #[.agg #[.slice A1 c.weights.length c1, .slice A2 c.tests.length c2]] w fun e w' => e = .returned (.int .i64 r) ∧ Below w.heap.size w w' := by
  have hlw := h.ws.1
  have hlt := h.ln
  unfold maxLen at hlw hlt
  have hb0 : Below w.heap.size w (w.alloc (.cells #[.slice A1 c.weights.length c1, .slice A2 c.tests.length c2] 36)) := (Below.refl _ _).alloc (Nat.le_refl _) _
  have n0 := newcell w #[.slice A1 c.weights.length c1, .slice A2 c.tests.length c2] 36 0
  have n1 := newcell w #[.slice A1 c.weights.length c1, .slice A2 c.tests.length c2] 36 1
  simp only [List.getElem?_toArray, List.getElem?_cons_succ, List.getElem?_cons_zero] at n0 n1
  have HR := Lib.hid hr
  clear hr
  rcases hx0 : inB c.weights.length 1 12
  · have X0 := Lib.hid hx0
    clear hx0
    go_enter Tryd.func27, Tryd.ntmps27
    go_wp2_with (go_at_call 66; refine (within_b _ _ _ _ _ X0.out).mono ?_; rintro e w' ⟨rfl, rfl⟩)
    go_ret
    exact ⟨ret_i (by rw [← HR.out, checkC_no (caseB_len X0.out)]), hb0⟩
  · have X0 := Lib.hid hx0
    clear hx0
    by_cases hm : 12 < c.tests.length
    · go_enter Tryd.func27, Tryd.ntmps27
      go_wp2_with (go_at_call 66; refine (within_b _ _ _ _ _ X0.out).mono ?_; rintro e w' ⟨rfl, rfl⟩)
      go_ret
      exact ⟨ret_i (by rw [← HR.out, checkC_no (caseB_many hm)]), hb0⟩
    · rcases hx1 : c.weights.all b1000
      · have X1 := Lib.hid hx1
        clear hx1
        have HC := Lib.hid (con68 A1 c1 c.weights (w.alloc (.cells #[.slice A1 c.weights.length c1, .slice A2 c.tests.length c2] 36)) w.heap.size (h.ws.keep hb0) X1.out)
        go_enter Tryd.func27, Tryd.ntmps27
        go_wp2_with (first | (go_at_call 66; refine (within_b _ _ _ _ _ X0.out).mono ?_; rintro e w' ⟨rfl, rfl⟩) | (go_at_call 67; refine HC.out.mono ?_; rintro e w' ⟨rfl, rfl⟩))
        go_ret
        exact ⟨ret_i (by rw [← HR.out, checkC_no (caseB_ws X1.out)]), hb0⟩
      · have X1 := Lib.hid hx1
        clear hx1
        have HC := Lib.hid (con68 A1 c1 c.weights (w.alloc (.cells #[.slice A1 c.weights.length c1, .slice A2 c.tests.length c2] 36)) w.heap.size (h.ws.keep hb0) X1.out)
        go_enter Tryd.func27, Tryd.ntmps27
        go_wp2_with (first | (go_at_call 66; refine (within_b _ _ _ _ _ X0.out).mono ?_; rintro e w' ⟨rfl, rfl⟩) | (go_at_call 67; refine HC.out.mono ?_; rintro e w' ⟨rfl, rfl⟩))
        have hsz : w.heap.size < (w.alloc (.cells #[.slice A1 c.weights.length c1, .slice A2 c.tests.length c2] 36)).heap.size := by simp
        generalize hW : w.alloc (.cells #[.slice A1 c.weights.length c1, .slice A2 c.tests.length c2] 36) = W0 at *
        clear hW HC
        go_loopw [24] (fun vi wr => ∃ k : Nat, k ≤ c.tests.length ∧ vi = .int .i64 k ∧ Hid (∀ (j : Nat) (t : MProbe), j < k → c.tests[j]? = some t → probeB c.weights.length t = true) ∧ Below W0.heap.size W0 wr) (fun vi _ => c.tests.length - (intOf vi).toNat)
        case atStart => exact ⟨0, Nat.zero_le _, rfl, fun j t hj => by omega, Below.refl _ _⟩
        case round =>
          obtain ⟨k, hk, rfl, HI, hbw⟩ := hrel
          have hbz := hb0.trans (hbw.mono (Nat.le_of_lt hsz))
          have hsw := hbw.size
          by_cases hlt2 : k < c.tests.length
          · obtain ⟨t, b, off, Ap, cp, ht, rfl, hblt, t0, t1, _, htp⟩ := (h.ts.below hbz (Nat.le_refl _)).at_ hlt2
            have HT := Lib.hid ht
            clear ht
            have hlo := htp.1
            unfold maxLen at hlo
            have m0 := (bcell hbw w.heap.size 0 hsz).trans n0
            have hb1 : Below w.heap.size w (wr.alloc (.cells #[.int .i64 t.cost, .slice Ap t.outs.length cp] 50)) := hbz.alloc (by omega) _
            have hb2 : Below W0.heap.size W0 (wr.alloc (.cells #[.int .i64 t.cost, .slice Ap t.outs.length cp] 50)) := hbw.alloc hsw _
            have q0 := newcell wr #[.int .i64 t.cost, .slice Ap t.outs.length cp] 50 0
            have q1 := newcell wr #[.int .i64 t.cost, .slice Ap t.outs.length cp] 50 1
            simp only [List.getElem?_toArray, List.getElem?_cons_succ, List.getElem?_cons_zero] at q0 q1
            have m1 := (acell wr (.cells #[.int .i64 t.cost, .slice Ap t.outs.length cp] 50) w.heap.size 0 (by omega)).trans m0
            rcases hy0 : inB t.cost 0 1000
            · have Y0 := Lib.hid hy0
              clear hy0
              go_wp2_with (go_at_call 66; refine (within_b _ _ _ _ _ Y0.out).mono ?_; rintro e w' ⟨rfl, rfl⟩)
              go_ret
              exact ⟨ret_i (by rw [← HR.out, checkC_no (caseB_ts HT.out (probeB_cost Y0.out))]), hb1⟩
            · have Y0 := Lib.hid hy0
              clear hy0
              by_cases hol : t.outs.length = c.weights.length
              · have hne : ((t.outs.length : Int) != (c.weights.length : Int)) = false := by rw [hol]; simp
                have HOL := Lib.hid hol
                clear hol
                rcases hy1 : t.outs.all b3
                all_goals
                  have Y1 := Lib.hid hy1
                  clear hy1
                  have HC2 := Lib.hid (con69 Ap cp t.outs (wr.alloc (.cells #[.int .i64 t.cost, .slice Ap t.outs.length cp] 50)) w.heap.size (htp.alloc (by omega) _ (Nat.le_refl _)) Y1.out)
                  go_wp2_with (first | (go_at_call 66; refine (within_b _ _ _ _ _ Y0.out).mono ?_; rintro e w' ⟨rfl, rfl⟩) | (go_at_call 67; refine HC2.out.mono ?_; rintro e w' ⟨rfl, rfl⟩))
                · go_ret
                  exact ⟨ret_i (by rw [← HR.out, checkC_no (caseB_ts HT.out (probeB_outs Y1.out))]), hb1⟩
                · go_roundw
                  case rel => exact ⟨k + 1, by omega, by go_num, upto_snoc HI.out HT.out (probeB_yes Y0.out HOL.out Y1.out), hb2⟩
                  case measure => simp [intOf]; omega
              · have hne : ((t.outs.length : Int) != (c.weights.length : Int)) = true := by rw [bne_iff_ne]; omega
                go_wp2_with (go_at_call 66; refine (within_b _ _ _ _ _ Y0.out).mono ?_; rintro e w' ⟨rfl, rfl⟩)
                go_ret
                exact ⟨ret_i (by rw [← HR.out, checkC_no (caseB_ts HT.out (probeB_len hol))]), hb1⟩
          · obtain rfl : k = c.tests.length := by omega
            go_wp2_with fail
            go_ret
            exact ⟨ret_i (by rw [← HR.out, checkC_yes (caseB_yes X0.out (by omega) X1.out HI.out)]), hbz⟩
end Go.Proofs.YtonpemikodajdaaDoor

/- Walks: the weight of a set. -/
namespace Go.Proofs.YtonpemikodajdaaDoor
open Go.RowKit

/-- what the methods of a guide read of it; the case lies below B0 -/
structure GE (w : World) (B0 gp : Nat) (A1 : Option Addr) (c1 : Nat) (A2 : Option Addr) (c2 : Nat) (c : MCase) : Prop where
  lt : gp < w.heap.size
  tab : TabW w
  g0 : w.cell? ⟨gp, 0, none⟩ = some (.slice A1 c.weights.length c1)
  g1 : w.cell? ⟨gp, 1, none⟩ = some (.slice A2 c.tests.length c2)
  ca : CaseA w B0 A1 A2 c
  t1 : 1 < B0
  le : B0 ≤ gp
theorem GE.keep {w w' : World} {B0 gp : Nat} {A1 : Option Addr} {c1 : Nat} {A2 : Option Addr} {c2 : Nat} {c : MCase} (h : GE w B0 gp A1 c1 A2 c2 c) {B : Nat} (hb : Below B w w') (hB : gp < B) : GE w' B0 gp A1 c1 A2 c2 c :=
  ⟨by have := hb.size; have := h.lt; omega, h.tab.below hb (by have := h.t1; have := h.le; omega), (bcell hb _ _ hB).trans h.g0, (bcell hb _ _ hB).trans h.g1, h.ca.below (hb.mono (B' := B0) (by have := h.le; omega)) (Nat.le_refl _), h.t1, h.le⟩
theorem GE.grown {w w' : World} {B0 gp mb : Nat} {A1 : Option Addr} {c1 : Nat} {A2 : Option Addr} {c2 : Nat} {c : MCase} (h : GE w B0 gp A1 c1 A2 c2 c) (hg : w.grownBy w' (some mb)) (hm : B0 ≤ mb) (hne : gp ≠ mb) : GE w' B0 gp A1 c1 A2 c2 c := by
  have hb : Below B0 w w' := (Below.refl _ _).grown hg (by have := h.lt; have := h.le; omega) (fun k hk => by injection hk with hk; omega)
  exact ⟨by have := hb.size; have := h.lt; omega, h.tab.below hb h.t1, hg.cell h.g0 (fun e => hne (by injection e)), hg.cell h.g1 (fun e => hne (by injection e)), h.ca.below hb (Nat.le_refl _), h.t1, h.le⟩
theorem weightL_snoc (ws : List Int) : ∀ (l : List Nat) (k : Nat) (x : Nat), l[k]? = some x → weightL ws (l.take (k + 1)) = weightL ws (l.take k) + ws.getD x 0
  | [], k, x, h => by simp at h
  | y :: r, 0, x, h => by
    simp at h
    subst h
    simp [weightL]
  | y :: r, k + 1, x, h => by
    rw [List.take_succ_cons, List.take_succ_cons, weightL, weightL, weightL_snoc ws r k x (by simpa using h)]
    omega
theorem weightL_bd {ws : List Int} (h : ∀ k, k < ws.length → 0 ≤ ws.getD k 0 ∧ ws.getD k 0 ≤ 1000) : ∀ l : List Nat, (∀ i, i ∈ l → i < ws.length) → 0 ≤ weightL ws l ∧ weightL ws l ≤ 1000 * (l.length : Int)
  | [], _ => by simp [weightL]
  | i :: r, hl => by
    have h1 := h i (hl i (List.mem_cons_self ..))
    have ih := weightL_bd h r fun j hj => hl j (List.mem_cons_of_mem _ hj)
    rw [weightL, List.length_cons]
    omega
theorem bits_lt {s n : Nat} (hs : s < 2 ^ n) {i : Nat} (hi : i ∈ bitsOf s) : i < n := by
  rcases Nat.lt_or_ge i n with h | h
  · exact h
  · have h1 := (mem_bitsOf.1 hi).2
    have : 2 ^ n ≤ 2 ^ i := Nat.pow_le_pow_right (by omega) h
    rw [Nat.testBit_lt_two_pow (by omega)] at h1
    cases h1
theorem two12 {s n : Nat} (hs : s < 2 ^ n) (hn : n ≤ 12) : s < 4096 := by
  have : 2 ^ n ≤ 2 ^ 12 := Nat.pow_le_pow_right (by omega) hn
  exact Nat.lt_of_lt_of_le hs this
theorem bitsI_at {s k : Nat} (hk : k < (bitsI s).length) : ∃ i, (bitsOf s)[k]? = some i ∧ i ∈ bitsOf s ∧ (bitsI s).getD k 0 = (i : Int) := by
  unfold bitsI at hk ⊢
  rw [List.length_map] at hk
  exact ⟨(bitsOf s)[k], List.getElem?_eq_getElem hk, List.getElem_mem _, by rw [List.getD_eq_getElem?_getD, List.getElem?_map, List.getElem?_eq_getElem hk]; rfl⟩
theorem bitsI_length (s : Nat) : (bitsI s).length = (bitsOf s).length := by unfold bitsI; rw [List.length_map]
theorem list_r (s : Nat) (w : World) (hs : s < 4096) (hT : TabW w) {n : Nat} (hn : (bitsI s).length = n) :
    Calls Tryd.prog 65 #[.int .u64 s] w fun e w' => ∃ Lb lc, e = .returned (.slice Lb n lc) ∧ n ≤ lc ∧ IntsA w' w'.heap.size Lb (bitsI s) ∧ Below w.heap.size w w' ∧ OutI w' w.heap.size (.slice Lb n lc) (bitsI s) :=
  (list_any s w hs hT).mono fun e w' ⟨v, he, hO, hb⟩ => by
    obtain ⟨Lb, lc, rfl, hlc, hI⟩ := hO.reads
    rw [hn] at he hlc hO
    exact ⟨Lb, lc, he, hlc, hI, hb, hO⟩
theorem OutI.at_ {w : World} {base n cap k : Nat} {A : Option Addr} {l : List Int} (h : OutI w base (.slice A n cap) l) (hn : l.length = n) (hk : k < n) : ∃ b, A = some ⟨b, 0, none⟩ ∧ base ≤ b ∧ b < w.heap.size ∧ w.cell? ⟨b, k, none⟩ = some (.int .i64 (l.getD k 0)) := by
  obtain ⟨g, hA, hb, hO⟩ := h.ownF (by omega)
  exact ⟨g, hA, hb, hO.lt, hO.cell (by omega)⟩
set_option maxRecDepth 100000 in
set_option maxHeartbeats 1000000 in
theorem weight_any (B0 gp : Nat) (A1 : Option Addr) (c1 : Nat) (A2 : Option Addr) (c2 : Nat) (c : MCase) (s : Nat) (w : World) (h : GE w B0 gp A1 c1 A2 c2 c) (hc : caseB c = true) (hs : s < 2 ^ c.weights.length) :
    Calls Tryd.prog 95 #[.pointer (some ⟨gp, 0, none⟩), .int .u64 s] w fun e w' => e = .returned (.int .i64 (weightS c s)) ∧ Below w.heap.size w w' := by
  have hok := caseOk hc
  have hs12 := two12 hs hok.n2
  have HW := Lib.hid hok.w
  have hn2 := hok.n2
  have HB := Lib.hid (fun i (hi : i ∈ bitsOf s) => bits_lt hs hi)
  have HE := Lib.hid h
  have hgl := h.lt
  have hle0 := h.le
  have g0 := h.g0
  clear hok hc hs
  obtain ⟨n, hn⟩ : ∃ n, (bitsI s).length = n := ⟨_, rfl⟩
  have hll := bitsI_len s
  rw [hn] at hll
  have HLL := Lib.hid (bitsI_length s)
  have HN := Lib.hid hn
  clear hn
  go_enter Tryd.func95, Tryd.ntmps95
  go_wp2_with (go_at_call 65; refine (list_r s _ hs12 HE.out.tab HN.out).mono ?_; rintro e w1 ⟨Lb, lc, rfl, hlc, hI, hb1, _⟩)
  have hsz1 := hb1.size
  go_loop [4, 10] (fun vn vi => ∃ k : Nat, k ≤ n ∧ vi = .int .i64 k ∧ vn = .int .i64 (weightL c.weights ((bitsOf s).take k))) (fun _ vi => n - (intOf vi).toNat)
  case atStart => exact ⟨0, Nat.zero_le _, rfl, rfl⟩
  case round =>
    obtain ⟨k, hk, rfl, rfl⟩ := hrel
    have hbd := weightL_bd HW.out ((bitsOf s).take k) fun i hi => HB.out i (List.mem_of_mem_take hi)
    have htl : ((bitsOf s).take k).length ≤ k := List.length_take_le _ _
    have hS : 0 ≤ weightL c.weights ((bitsOf s).take k) ∧ weightL c.weights ((bitsOf s).take k) ≤ 12000 := by omega
    clear hbd
    by_cases hlt : k < n
    · obtain ⟨i, hi, him, hg⟩ := bitsI_at (s := s) (k := k) (by have := HN.out; omega)
      have hin := HB.out i him
      obtain ⟨xb, xo, rfl, hxb, x0⟩ := hI.at_ (k := k) (by have := HN.out; omega)
      rw [hg] at x0
      have HS := Lib.hid (weightL_snoc c.weights _ _ _ hi)
      obtain ⟨wb, wo, rfl, hwb, w0⟩ := HE.out.ca.ws.at_ (k := i) hin
      have hwi := HW.out i hin
      have m0 := (bcell hb1 wb (wo + i) (by omega)).trans w0
      have q0 := (bcell hb1 gp 0 hgl).trans g0
      clear hi him hg w0 htl
      generalize weightL c.weights ((bitsOf s).take k) = S at *
      generalize c.weights.getD i 0 = wi at *
      go_wp2_with fail
      go_round
      case rel => exact ⟨k + 1, by omega, by go_num, int_c HS.out.symm⟩
      case measure => simp [intOf]; omega
    · obtain rfl : k = n := by omega
      go_wp2_with fail
      go_ret
      exact ⟨ret_i (by rw [List.take_of_length_le (by rw [← HLL.out, HN.out]; exact Nat.le_refl _)]; rfl), hb1⟩
end Go.Proofs.YtonpemikodajdaaDoor

/- Walks: diagnose.split. -/
namespace Go.Proofs.YtonpemikodajdaaDoor
open Go.RowKit

theorem partL_app (outs : List Int) (o : Nat) : ∀ l r : List Nat, partL outs o (l ++ r) = partL outs o l ||| partL outs o r
  | [], r => by simp [partL]
  | i :: l, r => by
    rw [List.cons_append, partL, partL, partL_app outs o l r]
    by_cases h : outs.getD i 0 = o
    · rw [if_pos h, if_pos h, Nat.or_assoc]
    · rw [if_neg h, if_neg h]
theorem take_snoc' {l : List Nat} {k x : Nat} (h : l[k]? = some x) : l.take (k + 1) = l.take k ++ [x] := by
  rw [List.take_add_one, h]; rfl
theorem partL_hit {outs : List Int} {l : List Nat} {k x o : Nat} (h : l[k]? = some x) (ho : outs.getD x 0 = o) : partL outs o (l.take (k + 1)) = partL outs o (l.take k) ||| 2 ^ x := by
  rw [take_snoc' h, partL_app, partL, if_pos ho, partL, Nat.or_zero]
theorem partL_miss {outs : List Int} {l : List Nat} {k x o : Nat} (h : l[k]? = some x) (ho : outs.getD x 0 ≠ o) : partL outs o (l.take (k + 1)) = partL outs o (l.take k) := by
  rw [take_snoc' h, partL_app, partL, if_neg ho, partL, Nat.or_zero]
theorem own_new (w : World) (cs : Array Value) (T : TypeId) {n : Nat} {f : Nat → Value} (hn : n ≤ cs.size) (hf : ∀ j, j < n → cs[j]? = some (f j)) : OwnF (w.alloc (.cells cs T)) w.heap.size T n f :=
  ⟨cs, heap_alloc_new w _, hn, hf⟩
theorem ix0 (a b c d : Value) (w : World) : (Instr.index 143 (.agg #[a, b, c, d]) (.int .i64 0)).run Tryd.prog w = .ok a w := by kernel_rfl
theorem ix1 (a b c d : Value) (w : World) : (Instr.index 143 (.agg #[a, b, c, d]) (.int .i64 1)).run Tryd.prog w = .ok b w := by kernel_rfl
theorem ix2 (a b c d : Value) (w : World) : (Instr.index 143 (.agg #[a, b, c, d]) (.int .i64 2)).run Tryd.prog w = .ok c w := by kernel_rfl
theorem ix3 (a b c d : Value) (w : World) : (Instr.index 143 (.agg #[a, b, c, d]) (.int .i64 3)).run Tryd.prog w = .ok d w := by kernel_rfl
theorem cell_far2 {w : World} {b b' o o' : Nat} {u : Value} (h : b ≠ b') : (w.setCell ⟨b', o', none⟩ u).cell? ⟨b, o, none⟩ = w.cell? ⟨b, o, none⟩ :=
  World.cell?_of_block (w := w) (Below.heap_setCell w ⟨b', o', none⟩ u b h)
set_option maxRecDepth 100000 in
set_option maxHeartbeats 2000000 in
theorem split_any (t : MProbe) (Ap : Option Addr) (cp : Nat) (s n : Nat) (w : World) (hT : TabW w) (hO : IntsA w w.heap.size Ap t.outs) (hn : t.outs.length = n) (hn12 : n ≤ 12) (ho : ∀ i, i < t.outs.length → 0 ≤ t.outs.getD i 0 ∧ t.outs.getD i 0 ≤ 3) (hs : s < 2 ^ n)
    {x0 x1 x2 x3 R : Nat} (h0 : partS t.outs s 0 = x0) (h1 : partS t.outs s 1 = x1) (h2 : partS t.outs s 2 = x2) (h3 : partS t.outs s 3 = x3) (hR : partsTo t.outs s 4 = R) :
    Calls Tryd.prog 94 #[.agg #[.int .i64 t.cost, .slice Ap t.outs.length cp], .int .u64 s] w fun e w' => e = .returned (.tuple #[.agg #[.int .u64 x0, .int .u64 x1, .int .u64 x2, .int .u64 x3], .int .i64 R]) ∧ Below w.heap.size w w' := by
  have HX0 := Lib.hid h0
  have HX1 := Lib.hid h1
  have HX2 := Lib.hid h2
  have HX3 := Lib.hid h3
  have HR := Lib.hid hR
  have HP : Hid (∀ o, partsTo t.outs s (o + 1) = partsTo t.outs s o + if 0 < partS t.outs s o then 1 else 0) := fun o => rfl
  have P0 : Hid (partsTo t.outs s 1 = partsTo t.outs s 0 + if 0 < x0 then 1 else 0) := by rw [← h0]; exact HP.out 0
  have P1 : Hid (partsTo t.outs s 2 = partsTo t.outs s 1 + if 0 < x1 then 1 else 0) := by rw [← h1]; exact HP.out 1
  have P2 : Hid (partsTo t.outs s 3 = partsTo t.outs s 2 + if 0 < x2 then 1 else 0) := by rw [← h2]; exact HP.out 2
  have P3 : Hid (partsTo t.outs s 4 = partsTo t.outs s 3 + if 0 < x3 then 1 else 0) := by rw [← h3]; exact HP.out 3
  have HQ0 : Hid (partsTo t.outs s 0 = 0) := rfl
  clear h0 h1 h2 h3 hR HP
  have hs12 := two12 hs hn12
  have HO := Lib.hid ho
  have HB := Lib.hid (fun i (hi : i ∈ bitsOf s) => bits_lt hs hi)
  obtain ⟨m, hm⟩ : ∃ m, (bitsI s).length = m := ⟨_, rfl⟩
  have hll := bitsI_len s
  rw [hm] at hll
  have HLL := Lib.hid (bitsI_length s)
  have HM := Lib.hid hm
  clear hm ho hs
  have HN := Lib.hid hn
  clear hn
  have hb0 : Below w.heap.size w ((w.alloc (.cells #[.int .i64 t.cost, .slice Ap t.outs.length cp] 50)).alloc (.cells #[.int .u64 0, .int .u64 0, .int .u64 0, .int .u64 0] 143)) := ((Below.refl _ _).alloc (Nat.le_refl _) _).alloc (by simp) _
  have hT0 := hT.keep hb0
  go_enter Tryd.func94, Tryd.ntmps94
  go_wp2_with (go_at_call 65; refine (list_r s _ hs12 hT0 HM.out).mono ?_; rintro e w1 ⟨Lb, lc, rfl, hlc, _, hb1, hI⟩)
  have hOw : OwnF ((w.alloc (.cells #[.int .i64 t.cost, .slice Ap t.outs.length cp] 50)).alloc (.cells #[.int .u64 0, .int .u64 0, .int .u64 0, .int .u64 0] 143)) (w.heap.size + 1) 143 4 (fun o => .int .u64 ((partL t.outs o ((bitsOf s).take 0) : Nat) : Int)) := by
    have := own_new (w.alloc (.cells #[.int .i64 t.cost, .slice Ap t.outs.length cp] 50)) #[.int .u64 0, .int .u64 0, .int .u64 0, .int .u64 0] 143 (n := 4) (f := fun o => .int .u64 ((partL t.outs o ((bitsOf s).take 0) : Nat) : Int)) (by simp) (fun j hj => by
      rw [List.take_zero, partL]
      rcases j with _ | _ | _ | _ | j
      · rfl
      · rfl
      · rfl
      · rfl
      · omega)
    simpa using this
  have q1 := newcell w #[.int .i64 t.cost, .slice Ap t.outs.length cp] 50 1
  simp only [List.getElem?_toArray, List.getElem?_cons_succ, List.getElem?_cons_zero] at q1
  have q1 := (acell _ (.cells #[.int .u64 0, .int .u64 0, .int .u64 0, .int .u64 0] 143) w.heap.size 1 (by simp)).trans q1
  have hO1 := hO.keep (hb0.trans (hb1.mono hb0.size))
  have hsz0 : ((w.alloc (.cells #[.int .i64 t.cost, .slice Ap t.outs.length cp] 50)).alloc (.cells #[.int .u64 0, .int .u64 0, .int .u64 0, .int .u64 0] 143)).heap.size = w.heap.size + 2 := by simp
  have hOw1 := hOw.below hb1 (by omega)
  have q1 := (bcell hb1 w.heap.size 1 (by omega)).trans q1
  have hbw1 := hb0.trans (hb1.mono hb0.size)
  have hs1 := hb1.size
  rw [hsz0] at hs1
  clear hb0 hb1 hOw hT0
  go_loopw [13] (fun vi wr => ∃ k : Nat, k ≤ m ∧ vi = .int .i64 k ∧ OwnF wr (w.heap.size + 1) 143 4 (fun o => .int .u64 ((partL t.outs o ((bitsOf s).take k) : Nat) : Int)) ∧ Below w.heap.size w wr ∧ OutI wr (w.heap.size + 2) (.slice Lb m lc) (bitsI s) ∧ wr.cell? ⟨w.heap.size, 1, none⟩ = some (.slice Ap t.outs.length cp)) (fun vi _ => m - (intOf vi).toNat)
  case atStart => exact ⟨0, Nat.zero_le _, rfl, hOw1, hbw1, by rw [hsz0] at hI; exact hI, q1⟩
  case round =>
    clear hOw1 hbw1 q1 hI hO1
    obtain ⟨k, hk, rfl, hOw, hbw, hI, q1⟩ := hrel
    by_cases hlt : k < m
    · obtain ⟨i, hi, him, hg⟩ := bitsI_at (s := s) (k := k) (by have := HM.out; omega)
      have hin := HB.out i him
      have hil : i < t.outs.length := by have := HN.out; omega
      obtain ⟨xb, rfl, hxb0, hxb, x0⟩ := hI.at_ HM.out hlt
      rw [hg] at x0
      obtain ⟨ob, oo, rfl, hob, o0⟩ := (hO.keep hbw).at_ (k := i) hil
      have hoi := HO.out i hil
      have HI := Lib.hid hi
      have hbk := hOw.cell (j := (t.outs.getD i 0).toNat) (by omega)
      have hbf := hOw.frozen (t.outs.getD i 0).toNat
      obtain ⟨ov, hov⟩ : ∃ ov : Nat, t.outs.getD i 0 = (ov : Int) := ⟨(t.outs.getD i 0).toNat, by omega⟩
      have HOV := Lib.hid hov
      rw [hov] at o0 hbk hbf hoi
      rw [Int.toNat_natCast] at hbk hbf
      have hnn : partL t.outs ov ((bitsOf s).take k) < 4096 := partL_lt _ _ _ fun j hj => (mem_bitsOf.1 (List.mem_of_mem_take hj)).1
      clear hi him hg hov
      generalize hpp : partL t.outs ov ((bitsOf s).take k) = pp at *
      have HPP := Lib.hid hpp
      clear hpp
      have HN2 : Hid (∀ o, o < 4 → (if o = ov then Value.int .u64 ((pp ||| 2 ^ i : Nat) : Int) else .int .u64 ((partL t.outs o ((bitsOf s).take k) : Nat) : Int)) = .int .u64 ((partL t.outs o ((bitsOf s).take (k + 1)) : Nat) : Int)) := fun o _ => by
        by_cases e : o = ov
        · subst e
          rw [if_pos rfl, partL_hit HI.out HOV.out, HPP.out]
        · rw [if_neg e, partL_miss HI.out (by rw [HOV.out]; omega)]
      have hq12 : 2 ^ i < 4096 := by
        have : 2 ^ i < 2 ^ 12 := Nat.pow_lt_pow_right (by omega) (show i < 12 by omega)
        exact this
      have hc : ((2 : Int) ^ i) = ((2 ^ i : Nat) : Int) := by simp
      generalize (2 ^ i : Nat) = q at *
      have e1 : IntKind.u64.wrap ((2 : Int) ^ i) = (q : Int) := by rw [hc]; exact IntWalk.u64_in _ (by omega)
      have e2 : bits BinOp.or IntKind.u64 (pp : Int) (q : Int) = ((pp ||| q : Nat) : Int) := u64_or_nat _ _ (by omega) (by omega)
      clear hc
      generalize hrr : pp ||| q = r at *
      clear hrr
      go_wp2_with fail
      refine wp_region_quiet_tail 10 (by kernel_rfl) (by kernel_rfl) ?_
      simp only [List.take_succ_cons, List.take_zero, List.drop_succ_cons, List.drop_zero]
      repeat (go_big_quiet_step (fail))
      refine wpQuiet_nil ?_
      clear e1 e2
      go_wp2_with fail
      go_roundw
      case rel => exact ⟨k + 1, by omega, by go_num, (hOw.set ov (.int .u64 (r : Int))).congr HN2.out, (hbw.setCell (p := ⟨w.heap.size + 1, ov, none⟩) (Nat.le_succ _) _).drew, World.ownsRow.drew (own_set hI (a := ⟨w.heap.size + 1, ov, none⟩) (by show w.heap.size + 1 < w.heap.size + 2; omega) _), (cell_far2 (by omega)).trans q1⟩
      case measure => simp [intOf]; omega
    · obtain rfl : k = m := by omega
      have htk : (bitsOf s).take k = bitsOf s := List.take_of_length_le (by rw [← HLL.out, HM.out]; exact Nat.le_refl _)
      rw [htk] at hOw
      have hOw : OwnF wr (w.heap.size + 1) 143 4 (fun o => .int .u64 ((partS t.outs s o : Nat) : Int)) := hOw
      have d0 := hOw.cell (j := 0) (by omega)
      have d1 := hOw.cell (j := 1) (by omega)
      have d2 := hOw.cell (j := 2) (by omega)
      have d3 := hOw.cell (j := 3) (by omega)
      have f0 := hOw.frozen 0
      have f1 := hOw.frozen 1
      have f2 := hOw.frozen 2
      have f3 := hOw.frozen 3
      rw [HX0.out] at d0
      rw [HX1.out] at d1
      rw [HX2.out] at d2
      rw [HX3.out] at d3
      have HOW := Lib.hid hOw
      clear hOw htk
      go_wp2_with fail
      go_loop [5, 30] (fun vp vi => ∃ k : Nat, k ≤ 4 ∧ vi = .int .i64 k ∧ ∃ q : Nat, vp = .int .i64 q ∧ q ≤ k ∧ Hid (partsTo t.outs s k = q)) (fun _ vi => 4 - (intOf vi).toNat)
      case atStart => exact ⟨0, Nat.zero_le _, rfl, 0, rfl, Nat.le_refl _, HQ0.out⟩
      case round =>
        obtain ⟨k, hk4, rfl, q, rfl, hq, HQ⟩ := hrel
        have i0 := ix0 (.int .u64 x0) (.int .u64 x1) (.int .u64 x2) (.int .u64 x3)
        have i1 := ix1 (.int .u64 x0) (.int .u64 x1) (.int .u64 x2) (.int .u64 x3)
        have i2 := ix2 (.int .u64 x0) (.int .u64 x1) (.int .u64 x2) (.int .u64 x3)
        have i3 := ix3 (.int .u64 x0) (.int .u64 x1) (.int .u64 x2) (.int .u64 x3)
        rcases (show k = 0 ∨ k = 1 ∨ k = 2 ∨ k = 3 ∨ k = 4 by omega) with rfl | rfl | rfl | rfl | rfl
        · by_cases h0 : 0 < x0
          · go_wp2_with fail
            go_round
            case rel => exact ⟨1, by omega, rfl, q + 1, by go_num, by omega, by show _ = _; rw [P0.out, HQ.out, if_pos h0]⟩
            case measure => simp [intOf]
          · have hd0 : decide (0 < x0) = false := decide_eq_false h0
            go_wp2_with fail
            go_round
            case rel => exact ⟨1, by omega, rfl, q, rfl, by omega, by show _ = _; rw [P0.out, HQ.out, if_neg h0]; rfl⟩
            case measure => simp [intOf]
        · by_cases h0 : 0 < x1
          · go_wp2_with fail
            go_round
            case rel => exact ⟨2, by omega, rfl, q + 1, by go_num, by omega, by show _ = _; rw [P1.out, HQ.out, if_pos h0]⟩
            case measure => simp [intOf]
          · have hd0 : decide (0 < x1) = false := decide_eq_false h0
            go_wp2_with fail
            go_round
            case rel => exact ⟨2, by omega, rfl, q, rfl, by omega, by show _ = _; rw [P1.out, HQ.out, if_neg h0]; rfl⟩
            case measure => simp [intOf]
        · by_cases h0 : 0 < x2
          · go_wp2_with fail
            go_round
            case rel => exact ⟨3, by omega, rfl, q + 1, by go_num, by omega, by show _ = _; rw [P2.out, HQ.out, if_pos h0]⟩
            case measure => simp [intOf]
          · have hd0 : decide (0 < x2) = false := decide_eq_false h0
            go_wp2_with fail
            go_round
            case rel => exact ⟨3, by omega, rfl, q, rfl, by omega, by show _ = _; rw [P2.out, HQ.out, if_neg h0]; rfl⟩
            case measure => simp [intOf]
        · by_cases h0 : 0 < x3
          · go_wp2_with fail
            go_round
            case rel => exact ⟨4, by omega, rfl, q + 1, by go_num, by omega, by show _ = _; rw [P3.out, HQ.out, if_pos h0]⟩
            case measure => simp [intOf]
          · have hd0 : decide (0 < x3) = false := decide_eq_false h0
            go_wp2_with fail
            go_round
            case rel => exact ⟨4, by omega, rfl, q, rfl, by omega, by show _ = _; rw [P3.out, HQ.out, if_neg h0]; rfl⟩
            case measure => simp [intOf]
        · have : q = R := by rw [← HQ.out, HR.out]
          subst this
          clear i0 i1 i2 i3
          go_wp2_with fail
          have hb9 : Below w.heap.size w ((((wr.setCell ⟨w.heap.size + 1, 0, none⟩ (.int .u64 x0)).setCell ⟨w.heap.size + 1, 1, none⟩ (.int .u64 x1)).setCell ⟨w.heap.size + 1, 2, none⟩ (.int .u64 x2)).setCell ⟨w.heap.size + 1, 3, none⟩ (.int .u64 x3)) :=
            (((hbw.setCell (p := ⟨w.heap.size + 1, 0, none⟩) (Nat.le_succ _) _).setCell (p := ⟨w.heap.size + 1, 1, none⟩) (Nat.le_succ _) _).setCell (p := ⟨w.heap.size + 1, 2, none⟩) (Nat.le_succ _) _).setCell (p := ⟨w.heap.size + 1, 3, none⟩) (Nat.le_succ _) _
          have hO9 : OwnF ((((wr.setCell ⟨w.heap.size + 1, 0, none⟩ (.int .u64 x0)).setCell ⟨w.heap.size + 1, 1, none⟩ (.int .u64 x1)).setCell ⟨w.heap.size + 1, 2, none⟩ (.int .u64 x2)).setCell ⟨w.heap.size + 1, 3, none⟩ (.int .u64 x3)) (w.heap.size + 1) 143 4 _ :=
            (((HOW.out.set 0 (.int .u64 x0)).set 1 (.int .u64 x1)).set 2 (.int .u64 x2)).set 3 (.int .u64 x3)
          have e0 := hO9.cell (j := 0) (by omega)
          have e1 := hO9.cell (j := 1) (by omega)
          have e2 := hO9.cell (j := 2) (by omega)
          have e3 := hO9.cell (j := 3) (by omega)
          simp at e0 e1 e2 e3
          clear hO9
          generalize (((wr.setCell ⟨w.heap.size + 1, 0, none⟩ (.int .u64 x0)).setCell ⟨w.heap.size + 1, 1, none⟩ (.int .u64 x1)).setCell ⟨w.heap.size + 1, 2, none⟩ (.int .u64 x2)).setCell ⟨w.heap.size + 1, 3, none⟩ (.int .u64 x3) = w9 at *
          exact bodyPost_ret (v := .tuple #[.agg #[.int .u64 x0, .int .u64 x1, .int .u64 x2, .int .u64 x3], .int .i64 q]) (by simp [results, Tryd.results94, go_sem, e0, e1, e2, e3]) rfl ⟨rfl, hb9⟩
end Go.Proofs.YtonpemikodajdaaDoor

/- Walk: sameInts, the law's comparison of lists. -/
namespace Go.Proofs.YtonpemikodajdaaDoor
open Go.RowKit

theorem eqI_no {L M : List Int} {k : Nat} (h : L.getD k 0 ≠ M.getD k 0) : decide (L = M) = false := decide_eq_false fun e => h (by rw [e])
theorem eqI_yes {L M : List Int} (hl : L.length = M.length) (h : ∀ j, j < L.length → L.getD j 0 = M.getD j 0) : decide (L = M) = true := decide_eq_true (List.ext_getElem hl fun j h1 h2 => by
  have h3 := h j h1
  rw [List.getD_eq_getElem?_getD, List.getElem?_eq_getElem h1, List.getD_eq_getElem?_getD, List.getElem?_eq_getElem h2] at h3
  exact h3)
set_option maxRecDepth 100000 in
set_option maxHeartbeats 2000000 in
theorem same_ints (A A' : Option Addr) (c c' : Nat) (L M : List Int) (w : World) (h : IntsA w w.heap.size A L) (h' : IntsA w w.heap.size A' M) {r : Bool} (hr : decide (L = M) = r) :
    Calls Tryd.prog 24 #[.slice A L.length c, .slice A' M.length c'] w fun e w' => e = .returned (.bool r) ∧ Below w.heap.size w w' := by
  have hlen := h.1
  have hlen' := h'.1
  unfold maxLen at hlen hlen'
  have HR := Lib.hid hr
  clear hr
  by_cases hl : L.length = M.length
  · have HL := Lib.hid hl
    rw [← hl]
    clear hl
    go_enter Tryd.func24, Tryd.ntmps24
    go_wp2_with fail
    go_loopw [5] (fun vi wr => ∃ k : Nat, k ≤ L.length ∧ vi = .int .i64 k ∧ Hid (∀ j, j < k → L.getD j 0 = M.getD j 0) ∧ Below w.heap.size w wr) (fun vi _ => L.length - (intOf vi).toNat)
    case atStart => exact ⟨0, Nat.zero_le _, rfl, (fun j hj => by omega), Below.refl _ _⟩
    case round =>
      obtain ⟨k, hk, rfl, HI, hbw⟩ := hrel
      by_cases hlt : k < L.length
      · obtain ⟨b, off, rfl, _, t0⟩ := (h.keep hbw).at_ hlt
        obtain ⟨b', off', rfl, _, t1⟩ := (h'.keep hbw).at_ (show k < M.length by rw [← HL.out]; exact hlt)
        obtain ⟨x, hx⟩ : ∃ x, L.getD k 0 = x := ⟨_, rfl⟩
        obtain ⟨y, hy⟩ : ∃ y, M.getD k 0 = y := ⟨_, rfl⟩
        rw [hx] at t0
        rw [hy] at t1
        have HX := Lib.hid hx
        have HY := Lib.hid hy
        clear hx hy
        have hbd : Below w.heap.size w wr → ∀ n, Below w.heap.size w (wr.drewN n) := fun hb n => ⟨hb.os, hb.tape, hb.output, hb.size, hb.block⟩
        have HBD := Lib.hid (hbd hbw)
        clear hbd
        by_cases he : x = y
        · have hne : (x != y) = false := by rw [he]; simp
          have HE := Lib.hid he
          clear he
          go_wp2_with fail
          go_quiet (fail)
          go_wp2_with fail
          go_roundw
          case rel => exact ⟨k + 1, by omega, by go_num, nat_snoc HI.out (by rw [HX.out, HY.out]; exact HE.out), HBD.out _⟩
          case measure => simp [intOf]; omega
        · have hne : (x != y) = true := by rw [bne_iff_ne]; omega
          have HE : Hid (x ≠ y) := he
          clear he
          go_wp2_with fail
          go_quiet (fail)
          go_wp2_with fail
          go_ret
          exact ⟨ret_b (by rw [← HR.out]; exact (eqI_no (k := k) (by rw [HX.out, HY.out]; exact HE.out)).symm), HBD.out _⟩
      · obtain rfl : k = L.length := by omega
        go_wp2_with fail
        go_ret
        exact ⟨ret_b (by rw [← HR.out]; exact (eqI_yes HL.out HI.out).symm), hbw⟩
  · have hne : ((L.length : Int) != (M.length : Int)) = true := by rw [bne_iff_ne]; omega
    have HL : Hid (¬ L.length = M.length) := hl
    clear hl
    go_enter Tryd.func24, Tryd.ntmps24
    go_wp2_with fail
    go_ret
    exact ⟨ret_b (by rw [← HR.out]; exact (decide_eq_false (fun e => HL.out (by rw [e]))).symm), Below.refl _ _⟩
end Go.Proofs.YtonpemikodajdaaDoor
