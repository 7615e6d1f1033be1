/- Walks: math/bits.Mul64 at 1; a copy within a slice of the call's own. -/
import Derived.Test.YtlbbhlkbhegegaaN1
import Derived.Test.YtlbbhlkbhegegaaOwn
import Derived.Test.YtlbbhlkbhegegaaLaws
import Derived.Test.YtlbbhlkbhegegaaTail
import Derived.Laws.BitsAllLaws
import Derived.Laws.CopyOwn
import Derived.Deep.RegionHeld3
namespace Go.Proofs.Ytlbbhlkbhegegaa
open Go.RowKit
theorem mask32 {n : Int} (h0 : 0 ≤ n) (h1 : n ≤ 1000) : bits BinOp.and IntKind.u64 n 4294967295 = n := by
  have h := u64_and n 4294967295 h0 (by omega) (by omega) (by omega)
  rw [h]
  have e : (4294967295 : Int).toNat = 2 ^ 32 - 1 := rfl
  rw [e, Nat.and_two_pow_sub_one_eq_mod, Nat.mod_eq_of_lt (by omega)]
  omega
theorem mask_1 : bits BinOp.and IntKind.u64 1 4294967295 = 1 := by kernel_rfl
theorem mask_0 : bits BinOp.and IntKind.u64 0 4294967295 = 0 := by kernel_rfl
theorem wrap_u {n : Int} (h0 : 0 ≤ n) (h1 : n ≤ 1000) : IntKind.u64.wrap n = n := IntWalk.u64_in _ (by omega)
theorem mul64_any (n : Int) (w : World) (h0 : 0 ≤ n) (h1 : n ≤ 1000) :
    Calls Try.prog 120 #[.int .u64 1, .int .u64 n] w fun e w' => e = .returned (.tuple #[.int .u64 0, .int .u64 n]) ∧ w = w' := by
  have hm := mask32 h0 h1
  have hm1 := mask_1
  have hm0 := mask_0
  have hz : n / 4294967296 = 0 := by omega
  have hw := wrap_u h0 h1
  go_enter Try.func120, Try.ntmps120
  go_wp2
  go_ret2
  exact ⟨rfl, rfl⟩
theorem mul_any (n : Int) (w : World) (h0 : 0 ≤ n) (h1 : n ≤ 1000) :
    Calls Try.prog 104 #[.int .u64 1, .int .u64 n] w fun e w' => e = .returned (.tuple #[.int .u64 0, .int .u64 n]) ∧ w = w' := by
  have hc := mul64_any n w h0 h1
  go_enter Try.func104, Try.ntmps104
  go_wp2_with (go_at_call 120; refine hc.mono ?_; rintro e w' ⟨rfl, rfl⟩)
  go_ret2
  exact ⟨rfl, rfl⟩
section
variable {ops : Array Oper} {rest : List Oper} {o : Oper} {a : Act} {Q : Exit → Act → World → Prop}
theorem splice_get {α : Type} (L : List α) (off : Nat) (cs : List α) (j : Nat) (h : off + cs.length ≤ L.length) : (splice L off cs)[j]? = if off ≤ j ∧ j < off + cs.length then cs[j - off]? else L[j]? := by
  unfold splice
  rw [List.getElem?_append, List.length_take, Nat.min_eq_left (by omega)]
  by_cases h1 : j < off
  · rw [if_pos h1, if_neg (by omega), List.getElem?_take, if_pos h1]
  · rw [if_neg h1, List.getElem?_append]
    by_cases h2 : j - off < cs.length
    · rw [if_pos h2, if_pos (by omega)]
    · rw [if_neg h2, if_neg (by omega), List.getElem?_drop]
      congr 1
      omega
/-- copy of ints into a slice that lies in a row of the call's own -/
theorem cp_ints (w : World) (hg : o.guard = none) (d s : Operand) (ho : o.op = .call { callee := .builtin .copy, args := #[d, s], argTypes := #[28, 28] }) (dp sp : Option Addr) (dLen dCap sLen sCap : Nat) (hd : a.eval d = .slice dp dLen dCap) (hs : a.eval s = .slice sp sLen sCap)
    (g off N : Nat) (f : Nat → Value) (hO : OwnF w g 3 N f) (m : Nat) (hm : m = Nat.min sLen dLen) (src : Nat → Int) (hsrc : 0 < m → dp = some ⟨g, off, none⟩ ∧ ∃ b so, sp = some ⟨b, so, none⟩ ∧ ∀ j, j < m → w.cell? ⟨b, so + j, none⟩ = some (.int .i64 (src j))) (hfit : off + m ≤ N) (B : Nat) (w0 : World) (hb : Below B w0 w) (hBg : B ≤ g)
    (hK : ∀ w', OwnF w' g 3 N (fun j => if off ≤ j ∧ j < off + m then .int .i64 (src (j - off)) else f j) → Below B w0 w' → wpList Try.prog ops Q rest (a.put o.dst (.int .i64 (m : Int))) w') : wpList Try.prog ops Q (o :: rest) a w := by
  obtain ⟨C, hC, hN, hf⟩ := hO
  have hcl : ((List.range m).map fun j => Value.int .i64 (src j)).length = m := by simp
  refine wpList_copy_splice hg d s 28 28 ho 3 under_ints (by kernel_rfl) dp sp dLen dCap sLen sCap hd hs g off C.toList 3 (by simpa using hC) ((List.range m).map fun j => Value.int .i64 (src j)) (by rw [hcl]; exact hm) ?_ (by rw [hcl]; simp; omega) ?_ B w0 hb hBg (fun w' h1 h2 => ?_)
  · rw [hcl]
    intro h0
    obtain ⟨h1, b, so, h2, h3⟩ := hsrc h0
    refine ⟨h1, ⟨b, so, none⟩, h2, fun j v hv => ?_⟩
    have hj : j < m := by
      rcases Nat.lt_or_ge j m with h4 | h4
      · exact h4
      · rw [List.getElem?_eq_none (by omega)] at hv; cases hv
    simp only [List.getElem?_map, List.getElem?_range hj, Option.map_some, Option.some.injEq] at hv
    rw [← hv]
    have := h3 j hj
    unfold Addr.add
    by_cases hj0 : j = 0
    · rw [if_pos hj0]; subst hj0; simpa using this
    · rw [if_neg hj0]; exact this
  · intro v hv
    obtain ⟨j, _, rfl⟩ := List.mem_map.1 hv
    rfl
  · have hfit' : off + ((List.range m).map fun j => Value.int .i64 (src j)).length ≤ C.toList.length := by rw [hcl]; simp; omega
    have := hK w' ⟨_, h1.out, by
      rw [List.size_toArray, length_splice _ _ _ hfit']
      simpa using hN, fun j hj => by
      rw [List.getElem?_toArray, splice_get _ _ _ _ hfit', hcl]
      show _ = some (if off ≤ j ∧ j < off + m then _ else _)
      by_cases h3 : off ≤ j ∧ j < off + m
      · rw [if_pos h3, if_pos h3, List.getElem?_map, List.getElem?_range (by omega)]; rfl
      · rw [if_neg h3, if_neg h3, Array.getElem?_toList, hf j hj]⟩ h2
    rw [hcl]
    exact this
/-- the same, at a step of a region that draws -/
theorem step_cp_ints {K : Act → World → Prop} {E : Prop} (w : World) (hg : o.guard = none) (d s : Operand) (ho : o.op = .call { callee := .builtin .copy, args := #[d, s], argTypes := #[28, 28] }) (dp sp : Option Addr) (dLen dCap sLen sCap : Nat) (hd : a.eval d = .slice dp dLen dCap) (hs : a.eval s = .slice sp sLen sCap)
    (g off N : Nat) (f : Nat → Value) (hO : OwnF w g 3 N f) (m : Nat) (hm : m = Nat.min sLen dLen) (src : Nat → Int) (hsrc : 0 < m → dp = some ⟨g, off, none⟩ ∧ ∃ b so, sp = some ⟨b, so, none⟩ ∧ ∀ j, j < m → w.cell? ⟨b, so + j, none⟩ = some (.int .i64 (src j))) (hfit : off + m ≤ N) (B : Nat) (w0 : World) (hb : Below B w0 w) (hBg : B ≤ g)
    (hK : ∀ w', OwnF w' g 3 N (fun j => if off ≤ j ∧ j < off + m then .int .i64 (src (j - off)) else f j) → Below B w0 w' → K (a.put o.dst (.int .i64 (m : Int))) w') : if Region.wanted o (yielded ops a.tmps) = true then Oper.wp Try.prog o a w K Q else E := by
  obtain ⟨C, hC, hN, hf⟩ := hO
  have hcl : ((List.range m).map fun j => Value.int .i64 (src j)).length = m := by simp
  refine step_copy_splice hg d s 28 28 ho 3 under_ints (by kernel_rfl) dp sp dLen dCap sLen sCap hd hs g off C.toList 3 (by simpa using hC) ((List.range m).map fun j => Value.int .i64 (src j)) (by rw [hcl]; exact hm) ?_ (by rw [hcl]; simp; omega) ?_ B w0 hb hBg (fun w' h1 h2 => ?_)
  · rw [hcl]
    intro h0
    obtain ⟨h1, b, so, h2, h3⟩ := hsrc h0
    refine ⟨h1, ⟨b, so, none⟩, h2, fun j v hv => ?_⟩
    have hj : j < m := by
      rcases Nat.lt_or_ge j m with h4 | h4
      · exact h4
      · rw [List.getElem?_eq_none (by omega)] at hv; cases hv
    simp only [List.getElem?_map, List.getElem?_range hj, Option.map_some, Option.some.injEq] at hv
    rw [← hv]
    have := h3 j hj
    unfold Addr.add
    by_cases hj0 : j = 0
    · rw [if_pos hj0]; subst hj0; simpa using this
    · rw [if_neg hj0]; exact this
  · intro v hv
    obtain ⟨j, _, rfl⟩ := List.mem_map.1 hv
    rfl
  · have hfit' : off + ((List.range m).map fun j => Value.int .i64 (src j)).length ≤ C.toList.length := by rw [hcl]; simp; omega
    have := hK w' ⟨_, h1.out, by
      rw [List.size_toArray, length_splice _ _ _ hfit']
      simpa using hN, fun j hj => by
      rw [List.getElem?_toArray, splice_get _ _ _ _ hfit', hcl]
      show _ = some (if off ≤ j ∧ j < off + m then _ else _)
      by_cases h3 : off ≤ j ∧ j < off + m
      · rw [if_pos h3, if_pos h3, List.getElem?_map, List.getElem?_range (by omega)]; rfl
      · rw [if_neg h3, if_neg h3, Array.getElem?_toList, hf j hj]⟩ h2
    rw [hcl]
    exact this
end
set_option maxRecDepth 100000 in
set_option maxHeartbeats 2000000 in
theorem repeat_any (xb xc n : Nat) (v : Int) (w : World) (hc : w.cell? ⟨xb, 0, none⟩ = some (.int .i64 v)) (hxb : xb < w.heap.size) (hn : n ≤ 1000) :
    Calls Try.prog 70 #[.slice (some ⟨xb, 0, none⟩) 1 xc, .int .i64 n] w fun e w' => ∃ g, e = .returned (.slice (some ⟨g, 0, none⟩) n n) ∧ w.heap.size ≤ g ∧ OwnF w' g 3 n (fun _ => .int .i64 v) ∧ Below w.heap.size w w' := by
  have hw := wrap_u (n := (n : Int)) (by omega) (by omega)
  by_cases h0 : n = 0
  · subst h0
    go_enter Try.func70, Try.ntmps70
    go_wp2_with (first | (go_at_call 104; refine (mul_any _ _ (by omega) (by omega)).mono ?_; rintro e w' ⟨rfl, rfl⟩) | (at_make; refine mk_ints _ rfl _ _ rfl 0 rfl rfl (by omega) ?_; intro w4 hW4 hb4) | (refine cp_ints w4 rfl (.tmp 31) (.tmp 32) rfl _ _ 0 0 1 xc rfl rfl w.heap.size 0 0 _ hW4 0 rfl (fun _ => 0) (by omega) (by omega) w.heap.size w hb4 (Nat.le_refl _) ?_; intro w5 hW5 hb5))
    go_loopw [8] (fun v wr => v = .int .i64 0 ∧ wr = w5) (fun _ _ => 0)
    case atStart => exact ⟨rfl, rfl⟩
    case round =>
      obtain ⟨rfl, rfl⟩ := hrel
      go_wp2_with fail
      go_ret
      exact ⟨w.heap.size, rfl, Nat.le_refl _, hW5.congr (fun j hj => by omega), hb5⟩
  have hn0 : 1 ≤ n := by omega
  go_enter Try.func70, Try.ntmps70
  go_wp2_with (first | (go_at_call 104; refine (mul_any _ _ (by omega) (by omega)).mono ?_; rintro e w' ⟨rfl, rfl⟩) | (at_make; refine mk_ints _ rfl _ _ rfl n rfl rfl (by omega) ?_; intro w4 hW4 hb4; have hcx : Hid (∀ j, j < 1 → w4.cell? ⟨xb, 0 + j, none⟩ = some (.int .i64 v)) := (fun j hj => by obtain rfl : j = 0 := (by omega); exact (bcell hb4 xb 0 hxb).trans hc); have hm1 : Hid (1 = Nat.min 1 n) := (Nat.min_eq_left hn0).symm) | (refine cp_ints w4 rfl (.tmp 31) (.tmp 32) rfl _ _ n n 1 xc rfl rfl w.heap.size 0 n _ hW4 1 hm1.out (fun _ => v) (fun _ => ⟨rfl, xb, 0, rfl, hcx.out⟩) (by omega) w.heap.size w hb4 (Nat.le_refl _) ?_; intro w5 hW5 hb5))
  clear hW4 hb4
  go_loopw [8] (fun x wr => ∃ k : Nat, 1 ≤ k ∧ k ≤ n ∧ x = .int .i64 k ∧ OwnF wr w.heap.size 3 n (fun j => if j < k then .int .i64 v else .int .i64 0) ∧ Below w.heap.size w wr) (fun x _ => n - (intOf x).toNat)
  case atStart => exact ⟨1, by omega, by omega, rfl, hW5.congr (fun j _ => by by_cases h : j < 1 <;> simp [h]), hb5⟩
  case round =>
    clear hW5 hb5
    obtain ⟨k, hk1, hk, rfl, hO, hbw⟩ := hrel
    by_cases hlt : k < n
    · have hmn : 1 ≤ Nat.min k (n - k) ∧ Nat.min k (n - k) ≤ n - k ∧ Nat.min k (n - k) ≤ k := ⟨by show 1 ≤ min k (n - k); omega, Nat.min_le_right _ _, Nat.min_le_left _ _⟩
      have hkn : (k : Int) ≤ (n : Int) := by omega
      have hk0 : (0 : Int) ≤ (k : Int) := by omega
      have hkn' : (k : Int) < (n : Int) := by omega
      have hnk : ¬ n = k := by omega
      obtain ⟨m, hm⟩ : ∃ m, m = Nat.min k (n - k) := ⟨_, rfl⟩
      have HM := Lib.hid hm
      rw [← hm] at hmn
      clear hm
      go_wp2_with fail
      have e0 : IntKind.i64.wrap ((k : Int) + (m : Int)) = (k : Int) + (m : Int) := IntWalk.i64_in _ (by omega)
      go_region_held3 (fun _ => True) (trivial) ((refine step_cp_ints _ (by rfl) (.tmp 41) (.tmp 44) (by rfl) _ _ (n - k) (n - k) k n (by rfl) (by rfl) w.heap.size k n _ hO m HM.out (fun _ => v) (fun _ => ⟨rfl, w.heap.size, 0, rfl, fun j hj => by have := OwnF.cell hO (j := j) (by omega); rw [Nat.zero_add]; rw [if_pos (by omega)] at this; exact this⟩) (by omega) w.heap.size w (hbw.drew) (Nat.le_refl _) ?_; intro w5 hW5 hb5))
      clear e0
      go_wp2_with fail
      go_roundw
      case rel =>
        refine ⟨k + m, by omega, by omega, int_c (by omega), hW5.congr (fun j hj => ?_), hb5⟩
        by_cases h1 : j < k
        · rw [if_neg (by omega), if_pos h1, if_pos (by omega)]
        · by_cases h2 : j < k + m
          · rw [if_pos (by omega), if_pos h2]
          · rw [if_neg (by omega), if_neg h1, if_neg h2]
      case measure => simp [intOf]; omega
    · obtain rfl : k = n := by omega
      go_wp2_with fail
      go_ret
      exact ⟨w.heap.size, rfl, Nat.le_refl _, hO.congr (fun j hj => by rw [if_pos hj]), hbw⟩
end Go.Proofs.Ytlbbhlkbhegegaa
