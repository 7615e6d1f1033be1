/- Walks: set: numbers of nodes that are not lost, ascending. -/
import Derived.Test.YtegclodchhcbaaaLm
import Derived.Test.YtegclodchhcbaaaLa
namespace Go.Proofs.Ytegclodchhcbaaa
open Go.RowKit

def setAt (g : MGrid) (F : List MFault) (nodes : List Int) (i : Nat) : Bool :=
  decide (0 ≤ nodes.getD i 0) && (decide (nodes.getD i 0 < g.nodes) && ((decide (i = 0) || decide (nodes.getD (i - 1) 0 < nodes.getD i 0)) && !lostB F 3 (nodes.getD i 0)))
def nodesB (g : MGrid) (F : List MFault) (nodes : List Int) : Bool := (List.range nodes.length).all (setAt g F nodes)
theorem nodesB_no {g : MGrid} {F : List MFault} {nodes : List Int} {i : Nat} (hi : i < nodes.length) (h : setAt g F nodes i = false) : nodesB g F nodes = false := by
  rw [Bool.eq_false_iff]
  exact rng_no hi h
set_option maxRecDepth 100000 in
set_option maxHeartbeats 4000000 in
theorem set_any (g : MGrid) (A1 A2 A3 : Option Addr) (c1 c2 c3 : Nat) (A : Option Addr) (cap : Nat) (F : List MFault) (Aw : Option Addr) (wc : Nat) (want : List Int) (An : Option Addr) (nc : Nat) (nodes : List Int) (w : World) (hf : FaultsA w w.heap.size A F) (hn : IntsA w w.heap.size An nodes) {b : Bool} (hb : nodesB g F nodes = b) :
    Calls Try.prog 31 #[.agg (caseC g A1 A2 A3 c1 c2 c3 A cap F Aw wc want), .slice An nodes.length nc] w fun e w' => e = .returned (.bool b) ∧ Below w.heap.size w w' := by
  unfold caseC
  obtain ⟨w1, hw1⟩ : ∃ w1, w.alloc (.cells #[.int .i64 g.nodes, .slice A1 g.lines.length c1, .slice A2 g.srcs.length c2, .slice A3 g.users.length c3, .slice A F.length cap, .slice Aw want.length wc] 30) = w1 := ⟨_, rfl⟩
  have hb1 : Below w.heap.size w w1 := by rw [← hw1]; exact (Below.refl _ _).alloc (Nat.le_refl _) _
  have hs1 : w1.heap.size = w.heap.size + 1 := by rw [← hw1]; simp
  have hx1 : w1.heap[w.heap.size]? = some (.cells #[.int .i64 g.nodes, .slice A1 g.lines.length c1, .slice A2 g.srcs.length c2, .slice A3 g.users.length c3, .slice A F.length cap, .slice Aw want.length wc] 30 (0, 0)) := by rw [← hw1]; exact heap_alloc_new w _
  have HX : Hid (∀ W, Below w1.heap.size w1 W → Below w.heap.size w W ∧ W.cell? ⟨w.heap.size, 0, none⟩ = some (.int .i64 g.nodes) ∧ W.cell? ⟨w.heap.size, 4, none⟩ = some (.slice A F.length cap)) := fun W hW => by
    have h1 := (hW.block w.heap.size (by omega)).trans hx1
    exact ⟨hb1.trans (hW.mono (by omega)), cell_of_row W _ 0 _ _ _ h1, cell_of_row W _ 4 _ _ _ h1⟩
  have HG : Hid (∀ W, Below w1.heap.size w1 W → FaultsA W W.heap.size A F ∧ IntsA W W.heap.size An nodes) := fun W hW => by
    have hW := (HX.out W hW).1
    exact ⟨(hf.keep hW).more hW.size, (hn.below hW (Nat.le_refl _)).more hW.size⟩
  have hnl : nodes.length ≤ maxLen := hn.1
  have hfl : F.length ≤ maxLen := hf.1
  unfold maxLen at hnl hfl
  have HB0 : Hid (Below w1.heap.size w1 w1) := Below.refl _ _
  have HS1 := Lib.hid hs1
  have HBB := Lib.hid hb
  clear hf hn hb1 hx1 hs1 hb
  go_enter Try.func31, Try.ntmps31
  go_wp2_with fail
  go_loopw [5] (fun vi wr => ∃ i : Nat, i ≤ nodes.length ∧ vi = .int .i64 i ∧ Hid (Below w1.heap.size w1 wr) ∧ Hid (∀ j, j < i → setAt g F nodes j = true)) (fun vi _ => nodes.length - (intOf vi).toNat)
  case atStart => exact ⟨0, Nat.zero_le _, rfl, HB0.out, fun j hj => absurd hj (Nat.not_lt_zero _)⟩
  case round =>
    clear HB0
    obtain ⟨i, hi, rfl, HB, HA⟩ := hrel
    rename World => wr
    by_cases hlt : i < nodes.length
    · have HLT := Lib.hid hlt
      have HAT : Hid (setAt g F nodes i = (decide (0 ≤ nodes.getD i 0) && (decide (nodes.getD i 0 < g.nodes) && ((decide (i = 0) || decide (nodes.getD (i - 1) 0 < nodes.getD i 0)) && !lostB F 3 (nodes.getD i 0))))) := rfl
      obtain ⟨b9, o9, hA9, hb9, c0⟩ := (HG.out wr HB.out).2.at_ hlt
      have HCE : Hid (∀ W, Below wr.heap.size wr W → W.cell? ⟨b9, o9 + i, none⟩ = some (.int .i64 (nodes.getD i 0))) := fun W hW => (bcell hW _ _ hb9).trans c0
      obtain ⟨_, p0, p4⟩ := HX.out wr HB.out
      have c1 : 0 < i → wr.cell? ⟨b9, o9 + (i - 1), none⟩ = some (.int .i64 (nodes.getD (i - 1) 0)) := fun h0 => by
        obtain ⟨b8, o8, hA8, _, c8⟩ := (HG.out wr HB.out).2.at_ (show i - 1 < nodes.length by omega)
        rw [hA9] at hA8
        cases hA8
        exact c8
      subst hA9
      generalize nodes.getD i 0 = x at *
      by_cases h1 : x < 0
      · have d1 : decide (x < 0) = true := decide_eq_true h1
        have HV : Hid (setAt g F nodes i = false) := by show _ = _; rw [HAT.out, decide_eq_false (by omega)]; rfl
        clear c1
        go_upto_region 4 with fail
        go_quiet (fail)
        have HBZ := Lib.hid (bdrw HB.out nq)
        generalize wr.drewN nq = w5 at *
        go_wp2_with fail
        go_ret
        exact ⟨ret_b (by rw [← HBB.out, nodesB_no HLT.out HV.out]), (HX.out _ HBZ.out).1⟩
      by_cases h2 : g.nodes ≤ x
      · have d1 : decide (x < 0) = false := decide_eq_false h1
        have d2 : decide (g.nodes ≤ x) = true := decide_eq_true h2
        have HV : Hid (setAt g F nodes i = false) := by show _ = _; rw [HAT.out, decide_eq_false (show ¬ x < g.nodes by omega)]; simp
        clear c1
        go_upto_region 4 with fail
        go_quiet (fail)
        have HBZ := Lib.hid (bdrw HB.out nq)
        generalize wr.drewN nq = w5 at *
        go_wp2_with fail
        go_ret
        exact ⟨ret_b (by rw [← HBB.out, nodesB_no HLT.out HV.out]), (HX.out _ HBZ.out).1⟩
      have d1 : decide (x < 0) = false := decide_eq_false h1
      have d2 : decide (g.nodes ≤ x) = false := decide_eq_false h2
      have HAT : Hid (setAt g F nodes i = ((decide (i = 0) || decide (nodes.getD (i - 1) 0 < x)) && !lostB F 3 x)) := by
        show _ = _
        rw [HAT.out, decide_eq_true (show 0 ≤ x by omega), decide_eq_true (show x < g.nodes by omega)]
        rfl
      by_cases h3 : 0 < i
      · have c1 := c1 h3
        have HI3 := Lib.hid h3
        generalize nodes.getD (i - 1) 0 = y at *
        by_cases h4 : x ≤ y
        · have d4 : decide (x ≤ y) = true := decide_eq_true h4
          have HV : Hid (setAt g F nodes i = false) := by show _ = _; rw [HAT.out, decide_eq_false (show ¬ i = 0 by have := HI3.out; omega), decide_eq_false (show ¬ y < x by omega)]; simp
          go_upto_region 4 with fail
          go_quiet (fail)
          have HBZ := Lib.hid (bdrw HB.out nq)
          generalize wr.drewN nq = w5 at *
          go_wp2_with fail
          go_ret
          exact ⟨ret_b (by rw [← HBB.out, nodesB_no HLT.out HV.out]), (HX.out _ HBZ.out).1⟩
        · have d4 : decide (x ≤ y) = false := decide_eq_false h4
          have HTR : Hid ((decide (i = 0) || decide (y < x)) = true) := by show _ = _; rw [decide_eq_true (show y < x by omega)]; simp
          clear h4
          go_upto_region 4 with fail
          go_quiet (fail)
          have HBZ := Lib.hid (bdrw HB.out nq)
          have HCZ : Hid (∀ W, Below (wr.drewN nq).heap.size (wr.drewN nq) W → W.cell? ⟨b9, o9 + i, none⟩ = some (.int .i64 x)) := fun W hW => HCE.out W ((bdrw (Below.refl _ _) nq).trans hW)
          generalize wr.drewN nq = w5 at *
          clear c0 p0 p4
          go_wp2_with fail
          go_loopw [6] (fun vk wz => ∃ k : Nat, k ≤ F.length ∧ vk = .int .i64 k ∧ Hid (Below w5.heap.size w5 wz) ∧ Hid (∀ j, j < k → isB (F.getD j dFault) 3 x = false)) (fun vk _ => F.length - (intOf vk).toNat)
          case atStart => exact ⟨0, Nat.zero_le _, rfl, Below.refl _ _, fun j hj => absurd hj (Nat.not_lt_zero _)⟩
          case round =>
            obtain ⟨k, hk, rfl, HBK, HNK⟩ := hrel
            rename World => wz
            have HBW : Hid (Below w1.heap.size w1 wz) := HBZ.out.trans (HBK.out.mono HBZ.out.size)
            obtain ⟨_, p0, p4⟩ := HX.out wz HBW.out
            by_cases hkl : k < F.length
            · obtain ⟨f, b2, off, hf, rfl, hb2, f0, f1⟩ := (HG.out wz HBW.out).1.at_ hkl
              have HKL := Lib.hid hkl
              have hI : isB (F.getD k dFault) 3 x = (f.kind == 3 && f.number == x) := by rw [hf]; rfl
              have c0 := HCZ.out wz HBK.out
              rcases h7 : (f.kind == 3) <;> rcases h8 : (f.number == x)
              all_goals
                rw [h7, h8] at hI
                have HI := Lib.hid hI
                clear hI
                go_upto_region 9 with fail
                go_quiet (fail)
                have HBQ := Lib.hid (bdrw HBK.out nq)
                have HBQ2 := Lib.hid (bdrw HBW.out nq)
                generalize wz.drewN nq = w6 at *
                go_wp2_with fail
                first
                  | (go_roundw
                     case rel => exact ⟨k + 1, HKL.out, by go_num, HBQ, miss_step HNK.out HI.out⟩
                     case measure => simp [intOf]; have := HKL.out; omega)
                  | (go_ret
                     exact ⟨ret_b (by rw [← HBB.out, nodesB_no HLT.out (by rw [HAT.out, lost_hit HKL.out HI.out]; simp)]), (HX.out _ HBQ2.out).1⟩)
            · obtain rfl : k = F.length := by omega
              have HL : Hid (lostB F 3 x = false) := lost_miss HNK.out
              have HV : Hid (setAt g F nodes i = true) := by show _ = _; rw [HAT.out, HL.out, HTR.out]; rfl
              go_wp2_with fail
              go_roundw
              case rel => exact ⟨i + 1, HLT.out, by go_num, HBW, upto_next HA.out HV.out⟩
              case measure => simp [intOf]; have := HLT.out; omega
      · obtain rfl : i = 0 := by omega
        have HTR : Hid ((decide ((0 : Nat) = 0) || decide (nodes.getD (0 - 1) 0 < x)) = true) := by show _ = _; simp
        clear c1
        simp only [Nat.add_zero] at c0 HCE
        go_upto_region 4 with fail
        go_quiet (fail)
        have HBZ := Lib.hid (bdrw HB.out nq)
        have HCZ : Hid (∀ W, Below (wr.drewN nq).heap.size (wr.drewN nq) W → W.cell? ⟨b9, o9, none⟩ = some (.int .i64 x)) := fun W hW => HCE.out W ((bdrw (Below.refl _ _) nq).trans hW)
        generalize wr.drewN nq = w5 at *
        clear c0 p0 p4
        go_wp2_with fail
        go_loopw [6] (fun vk wz => ∃ k : Nat, k ≤ F.length ∧ vk = .int .i64 k ∧ Hid (Below w5.heap.size w5 wz) ∧ Hid (∀ j, j < k → isB (F.getD j dFault) 3 x = false)) (fun vk _ => F.length - (intOf vk).toNat)
        case atStart => exact ⟨0, Nat.zero_le _, rfl, Below.refl _ _, fun j hj => absurd hj (Nat.not_lt_zero _)⟩
        case round =>
          obtain ⟨k, hk, rfl, HBK, HNK⟩ := hrel
          rename World => wz
          have HBW : Hid (Below w1.heap.size w1 wz) := HBZ.out.trans (HBK.out.mono HBZ.out.size)
          obtain ⟨_, p0, p4⟩ := HX.out wz HBW.out
          by_cases hkl : k < F.length
          · obtain ⟨f, b2, off, hf, rfl, hb2, f0, f1⟩ := (HG.out wz HBW.out).1.at_ hkl
            have HKL := Lib.hid hkl
            have hI : isB (F.getD k dFault) 3 x = (f.kind == 3 && f.number == x) := by rw [hf]; rfl
            have c0 := HCZ.out wz HBK.out
            rcases h7 : (f.kind == 3) <;> rcases h8 : (f.number == x)
            all_goals
              rw [h7, h8] at hI
              have HI := Lib.hid hI
              clear hI
              go_upto_region 9 with fail
              go_quiet (fail)
              have HBQ := Lib.hid (bdrw HBK.out nq)
              have HBQ2 := Lib.hid (bdrw HBW.out nq)
              generalize wz.drewN nq = w6 at *
              go_wp2_with fail
              first
                | (go_roundw
                   case rel => exact ⟨k + 1, HKL.out, by go_num, HBQ, miss_step HNK.out HI.out⟩
                   case measure => simp [intOf]; have := HKL.out; omega)
                | (go_ret
                   exact ⟨ret_b (by rw [← HBB.out, nodesB_no HLT.out (by rw [HAT.out, lost_hit HKL.out HI.out]; simp)]), (HX.out _ HBQ2.out).1⟩)
          · obtain rfl : k = F.length := by omega
            have HL : Hid (lostB F 3 x = false) := lost_miss HNK.out
            have HV : Hid (setAt g F nodes 0 = true) := by show _ = _; rw [HAT.out, HL.out, HTR.out]; rfl
            go_wp2_with fail
            go_roundw
            case rel => exact ⟨0 + 1, HLT.out, by go_num, HBW, upto_next HA.out HV.out⟩
            case measure => simp [intOf]; have := HLT.out; omega
    · obtain rfl : i = nodes.length := by omega
      have HV : Hid (nodesB g F nodes = true) := rng_yes HA.out
      go_wp2_with fail
      go_ret
      exact ⟨ret_b (by rw [← HBB.out, HV.out]), (HX.out _ HB.out).1⟩
end Go.Proofs.Ytegclodchhcbaaa
