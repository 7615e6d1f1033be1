/- Walks: Ranked: the reference's. -/
import Derived.Test.YtegclodchhcbaaaSd
namespace Go.Proofs.Ytegclodchhcbaaa
open Go.RowKit

theorem rankI_len (g : MGrid) (lv : Int) : ∀ i, (rankI g lv i).length ≤ i
  | 0 => Nat.le_refl _
  | i + 1 => by
    have := rankI_len g lv i
    rw [rankI]
    split
    · rw [List.length_append]; simp; omega
    · omega
theorem rankL_len (g : MGrid) : ∀ k, (rankL g k).length ≤ k * g.users.length
  | 0 => by simp [rankL]
  | k + 1 => by
    have h1 := rankL_len g k
    have h2 := rankI_len g (4 - k) g.users.length
    rw [rankL, List.length_append, Nat.succ_mul]
    omega
set_option maxRecDepth 100000 in
set_option maxHeartbeats 4000000 in
theorem ranked_any (g : MGrid) (A1 A2 A3 : Option Addr) (c1 c2 c3 : Nat) (w : World) (h : GridA w w.heap.size g A1 A2 A3) (hn : g.users.length ≤ 1000) :
    Calls Try.prog 27 #[.agg (gridC g A1 A2 A3 c1 c2 c3)] w fun e w' => ∃ v, e = .returned v ∧ OutI w' w.heap.size v (rankO g) ∧ Below w.heap.size w w' := by
  obtain ⟨w1, hw1⟩ : ∃ w1, w.alloc (.cells #[.int .i64 g.nodes, .slice A1 g.lines.length c1, .slice A2 g.srcs.length c2, .slice A3 g.users.length c3] 26) = w1 := ⟨_, rfl⟩
  have hb1 : Below w.heap.size w w1 := by rw [← hw1]; exact (Below.refl _ _).alloc (Nat.le_refl _) _
  have hs1 : w1.heap.size = w.heap.size + 1 := by rw [← hw1]; simp
  have hx1 : w1.heap[w.heap.size]? = some (.cells #[.int .i64 g.nodes, .slice A1 g.lines.length c1, .slice A2 g.srcs.length c2, .slice A3 g.users.length c3] 26 (0, 0)) := by rw [← hw1]; exact heap_alloc_new w _
  have HX : Hid (∀ W, Below w1.heap.size w1 W → Below w.heap.size w W ∧ W.cell? ⟨w.heap.size, 3, none⟩ = some (.slice A3 g.users.length c3) ∧ UsersA W W.heap.size A3 g.users) := fun W hW => by
    have h1 := (hW.block w.heap.size (by omega)).trans hx1
    have h2 := hb1.trans (hW.mono (by omega))
    exact ⟨h2, cell_of_row W _ 3 _ _ _ h1, (h.us.below h2 (Nat.le_refl _)).more h2.size⟩
  have HS1 := Lib.hid hs1
  have HB0 : Hid (Below w1.heap.size w1 w1) := Below.refl _ _
  unfold gridC
  clear h hb1 hx1 hs1
  go_enter Try.func27, Try.ntmps27
  go_wp2_with fail
  go_loopw [4, 3] (fun vl vo wr => ∃ (k : Nat) (V : Value), k ≤ 5 ∧ vl = .int .i64 (4 - (k : Int)) ∧ V = vo ∧ Hid (OutI wr w1.heap.size V (rankL g k)) ∧ Hid (Below w1.heap.size w1 wr)) (fun vl _ _ => (intOf vl + 1).toNat)
  case atStart => exact ⟨0, _, Nat.zero_le _, rfl, rfl, OutI.nil _ _, HB0.out⟩
  case round =>
    clear HB0
    obtain ⟨k, V, hk, rfl, rfl, HV, HB⟩ := hrel
    rename World => wr
    by_cases h5 : k < 5
    · have HK5 := Lib.hid h5
      have hl0 := rankL_len g k
      have hlk : (rankL g k).length ≤ 5000 := Nat.le_trans hl0 (Nat.le_trans (Nat.mul_le_mul hk hn) (by decide))
      have HLK := Lib.hid hlk
      have HV0 : Hid (OutI wr w1.heap.size V (rankL g k ++ rankI g (4 - (k : Int)) 0)) := by
        show OutI _ _ _ _
        rw [rankI, List.append_nil]
        exact HV.out
      obtain ⟨lv, hlv⟩ : ∃ lv : Int, 4 - (k : Int) = lv := ⟨_, rfl⟩
      have HLV := Lib.hid hlv
      have hlb : 0 ≤ lv ∧ lv ≤ 4 := by omega
      rw [hlv] at HV0 ⊢
      clear HV hl0 hlk hlv hk h5
      go_wp2_with fail
      go_loopw [5, 3] (fun vi vo wz => ∃ (i : Nat) (V : Value), i ≤ g.users.length ∧ vi = .int .i64 i ∧ V = vo ∧ Hid (OutI wz w1.heap.size V (rankL g k ++ rankI g lv i)) ∧ Hid (Below w1.heap.size w1 wz)) (fun vi _ _ => g.users.length - (intOf vi).toNat)
      case atStart => exact ⟨0, _, Nat.zero_le _, rfl, rfl, HV0.out, HB.out⟩
      case round =>
        clear HV0 HB
        obtain ⟨i, V, hi, rfl, rfl, HV, HB⟩ := hrel
        rename World => wz
        obtain ⟨_, p3, hu⟩ := HX.out wz HB.out
        have hul := hu.1
        unfold maxLen at hul
        by_cases hlt : i < g.users.length
        · obtain ⟨u, lb, lo, hue, hA, hlb2, u0, u1, u2⟩ := hu.at_ hlt
          subst hA
          have HLT := Lib.hid hlt
          have HUE := Lib.hid hue
          have hll : (rankL g k ++ rankI g lv i).length ≤ 10000 := by
            have h1 := HLK.out
            have h2 := rankI_len g lv i
            rw [List.length_append]
            omega
          have HLL := Lib.hid hll
          have hbs := HB.out.size
          clear hu hue hll
          by_cases hq : u.level = lv
          · have hq' : (u.level == lv) = true := by simpa using hq
            have HN : Hid (rankL g k ++ rankI g lv (i + 1) = (rankL g k ++ rankI g lv i) ++ [(i : Int)]) := by
              show _ = _
              rw [rankI, HUE.out, if_pos hq, List.append_assoc]
            generalize rankL g k ++ rankI g lv i = L at *
            have HA : Hid (OutI (wz.alloc (.cells #[.int .i64 i] 3)) w1.heap.size V L ∧ (wz.alloc (.cells #[.int .i64 i] 3)).cell? ⟨wz.heap.size, 0, none⟩ = some (.int .i64 i)) := ⟨own_below HV.out ((Below.refl _ _).alloc (Nat.le_refl _) _) (fun b hb => (own_block_lt HV.out b hb).2), newcell wz _ 3 0⟩
            go_wp2_with (at_builtin; refine app_int _ rfl _ _ rfl w1.heap.size V L rfl HA.out.1 wz.heap.size i rfl HA.out.2 (by have := HLL.out; omega) (by simp; omega) ?_; intro v7 w7 hO7 hg7; have HO7 := Lib.hid hO7; have HB7 : Hid (Below w1.heap.size w1 w7) := (HB.out.alloc HB.out.size _).grown hg7 (by simp; omega) (fun b hb => (own_block_lt HV.out b hb).1); clear hO7 hg7)
            go_roundw
            case rel => exact ⟨i + 1, _, HLT.out, by go_num, rfl, by rw [HN.out]; exact HO7.out, HB7.out⟩
            case measure => simp [intOf]; have := HLT.out; omega
          · have hq' : (u.level == lv) = false := by simpa using hq
            have HN : Hid (rankL g k ++ rankI g lv (i + 1) = rankL g k ++ rankI g lv i) := by
              show _ = _
              rw [rankI, HUE.out, if_neg hq]
            generalize rankL g k ++ rankI g lv i = L at *
            go_wp2_with fail
            go_roundw
            case rel => exact ⟨i + 1, _, HLT.out, by go_num, rfl, by rw [HN.out]; exact HV.out, HB.out⟩
            case measure => simp [intOf]; have := HLT.out; omega
        · obtain rfl : i = g.users.length := by omega
          have HN : Hid (rankL g (k + 1) = rankL g k ++ rankI g lv g.users.length) := by
            show _ = _
            rw [rankL, HLV.out]
          clear hu
          go_wp2_with fail
          go_roundw
          case rel => exact ⟨k + 1, _, HK5.out, by have := HLV.out; first | (go_num; done) | (congr 1; omega), rfl, by rw [HN.out]; exact HV.out, HB.out⟩
          case measure => simp [intOf]; have := HLV.out; omega
    · obtain rfl : k = 5 := by omega
      have HV5 : Hid (OutI wr w1.heap.size V (rankO g)) := HV
      go_wp2_with fail
      go_ret
      exact ⟨_, rfl, own_base HV5.out (by have := HS1.out; omega), (HX.out _ HB.out).1⟩
end Go.Proofs.Ytegclodchhcbaaa
