/- Walks: the numbers of all users. Printed by gen_us8.py. -/
import Derived.Test.YtegclodchhcbaaaSc
namespace Go.Proofs.Ytegclodchhcbaaa
open Go.RowKit

def allL (k : Nat) : List Int := (List.range k).map fun x : Nat => (x : Int)
theorem allL_len (k : Nat) : (allL k).length = k := by unfold allL; simp
theorem allL_step (k : Nat) : allL (k + 1) = allL k ++ [(k : Int)] := by unfold allL; rw [List.range_succ, List.map_append]; rfl
theorem allL_at {k i : Nat} (hi : i < k) : (allL k).getD i 0 = (i : Int) := by
  unfold allL
  rw [List.getD_eq_getElem?_getD, List.getElem?_map, List.getElem?_range hi]
  rfl
theorem allL_mem {k : Nat} {x : Int} : x ∈ allL k ↔ 0 ≤ x ∧ x < k := by
  unfold allL
  rw [List.mem_map]
  constructor
  · rintro ⟨y, hy, rfl⟩
    have := List.mem_range.1 hy
    omega
  · intro h
    exact ⟨x.toNat, List.mem_range.2 (by omega), by omega⟩
set_option maxRecDepth 100000 in
set_option maxHeartbeats 4000000 in
theorem everybody_any (g : MGrid) (A1 A2 A3 : Option Addr) (c1 c2 c3 : Nat) (w : World) (h : GridA w w.heap.size g A1 A2 A3) (hn : g.users.length ≤ 1000) :
    Calls Try.prog 74 #[.agg (gridC g A1 A2 A3 c1 c2 c3)] w fun e w' => ∃ A c, e = .returned (.slice A g.users.length c) ∧ IntsA w' w'.heap.size A (allL g.users.length) ∧ Below w.heap.size w w' := by
  obtain ⟨w1, hw1⟩ : ∃ w1, w.alloc (.cells #[.int .i64 g.nodes, .slice A1 g.lines.length c1, .slice A2 g.srcs.length c2, .slice A3 g.users.length c3] 26) = w1 := ⟨_, rfl⟩
  have hb1 : Below w.heap.size w w1 := by rw [← hw1]; exact (Below.refl _ _).alloc (Nat.le_refl _) _
  have hs1 : w1.heap.size = w.heap.size + 1 := by rw [← hw1]; simp
  have hx1 : w1.heap[w.heap.size]? = some (.cells #[.int .i64 g.nodes, .slice A1 g.lines.length c1, .slice A2 g.srcs.length c2, .slice A3 g.users.length c3] 26 (0, 0)) := by rw [← hw1]; exact heap_alloc_new w _
  have HX : Hid (∀ W, Below w1.heap.size w1 W → Below w.heap.size w W ∧ W.cell? ⟨w.heap.size, 3, none⟩ = some (.slice A3 g.users.length c3) ∧ UsersA W W.heap.size A3 g.users) := fun W hW => by
    have h1 := (hW.block w.heap.size (by omega)).trans hx1
    have h2 := hb1.trans (hW.mono (by omega))
    exact ⟨h2, cell_of_row W _ 3 _ _ _ h1, (h.us.below h2 (Nat.le_refl _)).more h2.size⟩
  have HB0 : Hid (Below w1.heap.size w1 w1) := Below.refl _ _
  have HN0 : Hid (OutI w1 w1.heap.size (.slice none 0 0) (allL 0)) := OutI.nil _ _
  unfold gridC
  clear h hb1 hx1 hs1
  go_enter Try.func74, Try.ntmps74
  go_wp2_with fail
  go_loopw [4, 3] (fun vi vo wr => ∃ (k : Nat) (V : Value), k ≤ g.users.length ∧ vi = .int .i64 k ∧ V = vo ∧ Hid (OutI wr w1.heap.size V (allL k)) ∧ Hid (Below w1.heap.size w1 wr)) (fun vi _ _ => g.users.length - (intOf vi).toNat)
  case atStart => exact ⟨0, _, Nat.zero_le _, rfl, rfl, HN0.out, HB0.out⟩
  case round =>
    clear HN0 HB0
    obtain ⟨k, V, hk, rfl, rfl, HV, HB⟩ := hrel
    rename World => wr
    obtain ⟨_, p3, hu⟩ := HX.out wr HB.out
    by_cases hlt : k < g.users.length
    · have HLT := Lib.hid hlt
      have HST : Hid (allL (k + 1) = allL k ++ [(k : Int)]) := allL_step k
      have hln : (allL k).length ≤ 1000 := by rw [allL_len]; omega
      have HLN := Lib.hid hln
      have hbs := HB.out.size
      clear hln hu
      generalize allL k = L at *
      have HA : Hid (OutI (wr.alloc (.cells #[.int .i64 k] 3)) w1.heap.size V L ∧ (wr.alloc (.cells #[.int .i64 k] 3)).cell? ⟨wr.heap.size, 0, none⟩ = some (.int .i64 k)) := ⟨own_below HV.out ((Below.refl _ _).alloc (Nat.le_refl _) _) (fun b hb => (own_block_lt HV.out b hb).2), newcell wr _ 3 0⟩
      go_wp2_with (at_builtin; refine app_int _ rfl _ _ rfl w1.heap.size V L rfl HA.out.1 wr.heap.size k rfl HA.out.2 (by have := HLN.out; omega) (by simp; omega) ?_; intro v7 w7 hO7 hg7; have HO7 := Lib.hid hO7; have HB7 : Hid (Below w1.heap.size w1 w7) := (HB.out.alloc HB.out.size _).grown hg7 (by simp; omega) (fun b hb => (own_block_lt HV.out b hb).1); clear hO7 hg7)
      go_roundw
      case rel => exact ⟨k + 1, _, HLT.out, by go_num, rfl, by rw [HST.out]; exact HO7.out, HB7.out⟩
      case measure => simp [intOf]; have := HLT.out; omega
    · obtain rfl : k = g.users.length := by omega
      obtain ⟨A, c, rfl, _, hi⟩ := HV.out.reads
      have HI := Lib.hid hi
      clear hi hu
      go_wp2_with fail
      go_ret
      exact ⟨A, c, by first | rfl | (rw [allL_len]; rfl), HI.out, (HX.out _ HB.out).1⟩
set_option maxRecDepth 100000 in
set_option maxHeartbeats 4000000 in
theorem alls_any (g : MGrid) (A1 A2 A3 : Option Addr) (c1 c2 c3 : Nat) (w : World) (h : GridA w w.heap.size g A1 A2 A3) (hn : g.users.length ≤ 1000) :
    Calls Try.prog 46 #[.agg (gridC g A1 A2 A3 c1 c2 c3)] w fun e w' => ∃ A c, e = .returned (.slice A g.users.length c) ∧ IntsA w' w'.heap.size A (allL g.users.length) ∧ Below w.heap.size w w' := by
  obtain ⟨w1, hw1⟩ : ∃ w1, w.alloc (.cells #[.int .i64 g.nodes, .slice A1 g.lines.length c1, .slice A2 g.srcs.length c2, .slice A3 g.users.length c3] 26) = w1 := ⟨_, rfl⟩
  have hb1 : Below w.heap.size w w1 := by rw [← hw1]; exact (Below.refl _ _).alloc (Nat.le_refl _) _
  have hs1 : w1.heap.size = w.heap.size + 1 := by rw [← hw1]; simp
  have hx1 : w1.heap[w.heap.size]? = some (.cells #[.int .i64 g.nodes, .slice A1 g.lines.length c1, .slice A2 g.srcs.length c2, .slice A3 g.users.length c3] 26 (0, 0)) := by rw [← hw1]; exact heap_alloc_new w _
  have HX : Hid (∀ W, Below w1.heap.size w1 W → Below w.heap.size w W ∧ W.cell? ⟨w.heap.size, 3, none⟩ = some (.slice A3 g.users.length c3) ∧ UsersA W W.heap.size A3 g.users) := fun W hW => by
    have h1 := (hW.block w.heap.size (by omega)).trans hx1
    have h2 := hb1.trans (hW.mono (by omega))
    exact ⟨h2, cell_of_row W _ 3 _ _ _ h1, (h.us.below h2 (Nat.le_refl _)).more h2.size⟩
  have HB0 : Hid (Below w1.heap.size w1 w1) := Below.refl _ _
  have HN0 : Hid (OutI w1 w1.heap.size (.slice none 0 0) (allL 0)) := OutI.nil _ _
  unfold gridC
  clear h hb1 hx1 hs1
  go_enter Try.func46, Try.ntmps46
  go_wp2_with fail
  go_loopw [4, 3] (fun vi vo wr => ∃ (k : Nat) (V : Value), k ≤ g.users.length ∧ vi = .int .i64 k ∧ V = vo ∧ Hid (OutI wr w1.heap.size V (allL k)) ∧ Hid (Below w1.heap.size w1 wr)) (fun vi _ _ => g.users.length - (intOf vi).toNat)
  case atStart => exact ⟨0, _, Nat.zero_le _, rfl, rfl, HN0.out, HB0.out⟩
  case round =>
    clear HN0 HB0
    obtain ⟨k, V, hk, rfl, rfl, HV, HB⟩ := hrel
    rename World => wr
    obtain ⟨_, p3, hu⟩ := HX.out wr HB.out
    by_cases hlt : k < g.users.length
    · have HLT := Lib.hid hlt
      have HST : Hid (allL (k + 1) = allL k ++ [(k : Int)]) := allL_step k
      have hln : (allL k).length ≤ 1000 := by rw [allL_len]; omega
      have HLN := Lib.hid hln
      have hbs := HB.out.size
      clear hln hu
      generalize allL k = L at *
      have HA : Hid (OutI (wr.alloc (.cells #[.int .i64 k] 3)) w1.heap.size V L ∧ (wr.alloc (.cells #[.int .i64 k] 3)).cell? ⟨wr.heap.size, 0, none⟩ = some (.int .i64 k)) := ⟨own_below HV.out ((Below.refl _ _).alloc (Nat.le_refl _) _) (fun b hb => (own_block_lt HV.out b hb).2), newcell wr _ 3 0⟩
      go_wp2_with (at_builtin; refine app_int _ rfl _ _ rfl w1.heap.size V L rfl HA.out.1 wr.heap.size k rfl HA.out.2 (by have := HLN.out; omega) (by simp; omega) ?_; intro v7 w7 hO7 hg7; have HO7 := Lib.hid hO7; have HB7 : Hid (Below w1.heap.size w1 w7) := (HB.out.alloc HB.out.size _).grown hg7 (by simp; omega) (fun b hb => (own_block_lt HV.out b hb).1); clear hO7 hg7)
      go_roundw
      case rel => exact ⟨k + 1, _, HLT.out, by go_num, rfl, by rw [HST.out]; exact HO7.out, HB7.out⟩
      case measure => simp [intOf]; have := HLT.out; omega
    · obtain rfl : k = g.users.length := by omega
      obtain ⟨A, c, rfl, _, hi⟩ := HV.out.reads
      have HI := Lib.hid hi
      clear hi hu
      go_wp2_with fail
      go_ret
      exact ⟨A, c, by first | rfl | (rw [allL_len]; rfl), HI.out, (HX.out _ HB.out).1⟩
set_option maxRecDepth 100000 in
set_option maxHeartbeats 4000000 in
theorem users_any (g : MGrid) (A1 A2 A3 : Option Addr) (c1 c2 c3 : Nat) (w : World) (h : GridA w w.heap.size g A1 A2 A3) (hn : g.users.length ≤ 1000) :
    Calls Try.prog 73 #[.agg (gridC g A1 A2 A3 c1 c2 c3)] w fun e w' => ∃ A c, e = .returned (.slice A g.users.length c) ∧ IntsA w' w'.heap.size A (allL g.users.length) ∧ Below w.heap.size w w' := by
  obtain ⟨w1, hw1⟩ : ∃ w1, w.alloc (.cells #[.int .i64 g.nodes, .slice A1 g.lines.length c1, .slice A2 g.srcs.length c2, .slice A3 g.users.length c3] 26) = w1 := ⟨_, rfl⟩
  have hb1 : Below w.heap.size w w1 := by rw [← hw1]; exact (Below.refl _ _).alloc (Nat.le_refl _) _
  have hs1 : w1.heap.size = w.heap.size + 1 := by rw [← hw1]; simp
  have hx1 : w1.heap[w.heap.size]? = some (.cells #[.int .i64 g.nodes, .slice A1 g.lines.length c1, .slice A2 g.srcs.length c2, .slice A3 g.users.length c3] 26 (0, 0)) := by rw [← hw1]; exact heap_alloc_new w _
  have HX : Hid (∀ W, Below w1.heap.size w1 W → Below w.heap.size w W ∧ W.cell? ⟨w.heap.size, 3, none⟩ = some (.slice A3 g.users.length c3) ∧ UsersA W W.heap.size A3 g.users) := fun W hW => by
    have h1 := (hW.block w.heap.size (by omega)).trans hx1
    have h2 := hb1.trans (hW.mono (by omega))
    exact ⟨h2, cell_of_row W _ 3 _ _ _ h1, (h.us.below h2 (Nat.le_refl _)).more h2.size⟩
  have HS1 := Lib.hid hs1
  obtain ⟨_, p3, hu⟩ := HX.out w1 (Below.refl _ _)
  unfold gridC
  clear h hb1 hx1 hs1 hu
  go_enter Try.func73, Try.ntmps73
  go_wp2_with (at_make; refine mk_ints _ rfl _ _ rfl g.users.length rfl rfl (by omega) ?_; intro w2 hO2 hb2; have HO2 := Lib.hid hO2; have HB2 := Lib.hid hb2; clear hO2 hb2)
  clear p3
  go_loopw [11] (fun vi wr => ∃ k : Nat, k ≤ g.users.length ∧ vi = .int .i64 k ∧ Hid (Below w1.heap.size w1 wr) ∧ Hid (OwnF wr w1.heap.size 3 g.users.length (fun t => .int .i64 (if t < k then (t : Int) else 0)))) (fun vi _ => g.users.length - (intOf vi).toNat)
  case atStart => exact ⟨0, Nat.zero_le _, rfl, HB2.out, HO2.out⟩
  case round =>
    obtain ⟨k, hk, rfl, HB, HO⟩ := hrel
    rename World => wr
    by_cases hlt : k < g.users.length
    · have HLT := Lib.hid hlt
      have c0 := HO.out.cell hlt
      have f0 := HO.out.frozen k
      have HO3 : Hid (OwnF (wr.setCell ⟨w1.heap.size, k, none⟩ (.int .i64 k)) w1.heap.size 3 g.users.length (fun t => .int .i64 (if t < k + 1 then (t : Int) else 0))) := (HO.out.set k _).congr fun t _ => by
        by_cases e : t = k
        · subst e; simp
        · simp only [e, if_false]
          by_cases e2 : t < k
          · rw [if_pos e2, if_pos (by omega)]
          · rw [if_neg e2, if_neg (by omega)]
      have HB3 : Hid (Below w1.heap.size w1 (wr.setCell ⟨w1.heap.size, k, none⟩ (.int .i64 k))) := HB.out.setCell (p := ⟨w1.heap.size, k, none⟩) (Nat.le_refl _) _
      go_wp2_with fail
      go_roundw
      case rel => exact ⟨k + 1, HLT.out, by go_num, HB3.out, HO3⟩
      case measure => simp [intOf]; have := HLT.out; omega
    · obtain rfl : k = g.users.length := by omega
      have HI : Hid (IntsA wr wr.heap.size (some ⟨w1.heap.size, 0, none⟩) (allL g.users.length)) := by
        refine OwnF.ints (T := 3) ?_ (by rw [allL_len]; unfold maxLen; omega)
        rw [allL_len]
        exact HO.out.congr fun t ht => by rw [if_pos ht, allL_at ht]
      go_wp2_with fail
      go_ret
      exact ⟨_, _, rfl, HI.out, (HX.out _ HB.out).1⟩
end Go.Proofs.Ytegclodchhcbaaa
