/- Walks: math/bits.TrailingZeros for small numbers; the list of a set. -/
import Derived.Test.YtonpemikodajdaaDoorTz0
namespace Go.Proofs.YtonpemikodajdaaDoor
open Go.RowKit

theorem tz_at {x : Nat} (h0 : 0 < x) (h1 : x < 4096) : (0 ≤ tzI x ∧ tzI x < 64) ∧ tabL.getD (tzI x).toNat 0 = tzN x ∧ bitsOf x = tzN x :: bitsOf (x &&& (x - 1)) ∧ x &&& (x - 1) < x ∧ bits BinOp.and IntKind.u64 (x : Int) ((x : Int) - 1) = ((x &&& (x - 1) : Nat) : Int) := by
  have h := List.all_eq_true.1 tz_all x (List.mem_range.2 h1)
  unfold tzOk at h
  simp only [Bool.or_eq_true, Bool.and_eq_true, beq_iff_eq, decide_eq_true_eq] at h
  rcases h with h | ⟨⟨⟨⟨h1, h2⟩, h3⟩, h4⟩, h5⟩
  · omega
  · exact ⟨h1, h2, h3, h4, h5⟩
theorem tzN_lt {x : Nat} (h0 : 0 < x) (h1 : x < 4096) : tzN x < 12 := by
  have h := (tz_at h0 h1).2.2.1
  have : tzN x ∈ bitsOf x := by rw [h]; exact List.mem_cons_self ..
  exact (mem_bitsOf.1 this).1
theorem tz64 (x : Nat) (w : World) (h0 : 0 < x) (h1 : x < 4096) (hT : TabW w) :
    Calls Tryd.prog 118 #[.int .u64 x] w fun e w' => e = .returned (.int .i64 (tzN x)) ∧ w = w' := by
  obtain ⟨hi, htab, _⟩ := tz_at h0 h1
  have hc := hT.2 (tzI x).toNat (by omega)
  rw [htab] at hc
  have hx0 : ((x : Int) == 0) = false := by rw [beq_eq_false_iff_ne]; omega
  unfold tzI at hi hc
  have hi0 := hi.1
  have hlt := tzN_lt h0 h1
  have hi1 := hi.2
  clear htab hi
  go_enter Tryd.func118, Tryd.ntmps118
  go_wp2_with fail
  go_ret
  exact ⟨rfl, rfl⟩
theorem tz_any (x : Nat) (w : World) (h0 : 0 < x) (h1 : x < 4096) (hT : TabW w) :
    Calls Tryd.prog 103 #[.int .u64 x] w fun e w' => e = .returned (.int .i64 (tzN x)) ∧ w = w' := by
  have HC := Lib.hid (tz64 x w h0 h1 hT)
  go_enter Tryd.func103, Tryd.ntmps103
  go_wp2_with (go_at_call 118; refine HC.out.mono ?_; rintro e w' ⟨rfl, rfl⟩)
  go_ret
  exact ⟨rfl, rfl⟩
/-- a set as a list of ints -/
def bitsI (s : Nat) : List Int := (bitsOf s).map fun (i : Nat) => (i : Int)
theorem bitsOf_zero : bitsOf 0 = [] := by decide
theorem bitsOf_len (s : Nat) : (bitsOf s).length ≤ 12 := by
  unfold bitsOf
  exact Nat.le_trans (List.length_filter_le _ _) (by simp)
theorem bitsI_len (s : Nat) : (bitsI s).length ≤ 12 := by unfold bitsI; rw [List.length_map]; exact bitsOf_len s
set_option maxRecDepth 100000 in
theorem list_any (s : Nat) (w : World) (hs : s < 4096) (hT : TabW w) :
    Calls Tryd.prog 65 #[.int .u64 s] w fun e w' => ∃ v, e = .returned v ∧ OutI w' w.heap.size v (bitsI s) ∧ Below w.heap.size w w' := by
  have HT := Lib.hid hT.1
  go_enter Tryd.func65, Tryd.ntmps65
  go_wp2_with fail
  go_loopw [0, 2] (fun vs v wr => ∃ (t : Nat) (L : List Int), t ≤ s ∧ vs = .int .u64 t ∧ Hid (L ++ bitsI t = bitsI s) ∧ OutI wr w.heap.size v L ∧ Below w.heap.size w wr) (fun vs _ _ => (intOf vs).toNat)
  case atStart => exact ⟨s, [], Nat.le_refl _, rfl, rfl, OutI.nil _ _, Below.refl _ _⟩
  case round =>
    obtain ⟨t, L, ht, rfl, HL, hO, hbw⟩ := hrel
    by_cases h0 : 0 < t
    · obtain ⟨_, _, hb, hlt, hand⟩ := tz_at h0 (by omega)
      have hle : L.length ≤ 12 := by
        have h1 := congrArg List.length HL.out
        rw [List.length_append] at h1
        have := bitsI_len s
        omega
      have HB : Hid (L ++ [(tzN t : Int)] ++ bitsI (t &&& (t - 1)) = bitsI s) := by
        show _ = _
        rw [← HL.out]
        unfold bitsI
        rw [hb, List.map_cons, List.append_assoc]
        rfl
      have HLT := Lib.hid hlt
      clear hb hlt
      have hTw := hT.keep hbw
      go_wp2_with (first | (go_at_call 103; refine (tz_any t _ h0 (by omega) hTw).mono ?_; rintro e w' ⟨rfl, rfl⟩) | (at_builtin; refine app_int _ rfl _ _ rfl w.heap.size _ L rfl (World.ownsRow.alloc hO _) _ _ rfl (newcell _ _ _ _) (by omega) (by simp; have := hbw.size; omega) ?_; intro v6 w6 hO6 hg6))
      go_roundw
      case rel => exact ⟨t &&& (t - 1), L ++ [(tzN t : Int)], by have := HLT.out; omega, rfl, HB.out, hO6, (hbw.alloc hbw.size _).grown hg6 (by simp; have := hbw.size; omega) (fun k hk => (own_block_lt hO k hk).1)⟩
      case measure => have := HLT.out; simp [intOf]; omega
    · obtain rfl : t = 0 := by omega
      go_wp2_with fail
      go_ret
      exact ⟨_, rfl, by rw [← HL.out]; unfold bitsI; rw [bitsOf_zero, List.map_nil, List.append_nil]; exact hO, hbw⟩
end Go.Proofs.YtonpemikodajdaaDoor
