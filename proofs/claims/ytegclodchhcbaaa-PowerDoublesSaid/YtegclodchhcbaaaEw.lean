/- Walk: everything's closure: all single faults, one after another. -/
import Derived.RangeFuncNested
import Derived.RangeFuncBound
import Derived.RangeFuncCalls
import Derived.RangeFuncLeaves
import Derived.Shelf.Abstract
import Derived.Shelf.RegionOpen
import Derived.WalkKit
import Derived.OwnWalkIn
import Derived.TacticsInMore
import Derived.LoopNIn
import Derived.LoopIn
import Derived.Test.YtegclodchhcbaaaEv
namespace Go.Proofs.Ytegclodchhcbaaa
open Go.RowKit Go.Shelf
attribute [local go_sem] Oper.semAt_some

def encF (f : MFault) : Array Value := #[.agg #[.int .i64 f.kind, .int .i64 f.number]]
/-- how many there are of a kind -/
def manyN (g : MGrid) (n : Nat) (j : Nat) : Nat := if j = 1 then g.srcs.length else if j = 2 then g.lines.length else if j = 3 then n else 0
/-- what came when j kinds are over -/
def kindsL (g : MGrid) (n : Nat) : Nat → List MFault
  | 0 => []
  | j + 1 => kindsL g n j ++ kindL j (manyN g n j)
theorem kindsL_all (g : MGrid) (n : Nat) : kindsL g n 4 = allF g n := by
  unfold allF
  simp [kindsL, manyN, kindL]
theorem run_index109 {g : MGrid} {n : Nat} (hn : g.nodes = n) {j : Nat} (hj : j < 4) (w : World) : (Instr.index 109 (.agg (numC g)) (.int .i64 (j : Int))).run Try.prog w = .ok (.int .i64 (manyN g n j)) w := by
  have hu : Try.prog.underlying 109 = some (.array 4 3) := Try.underlying109
  have hc : (numC g)[j]? = some (.int .i64 (manyN g n j)) := by
    rcases (show j = 0 ∨ j = 1 ∨ j = 2 ∨ j = 3 by omega) with rfl | rfl | rfl | rfl <;> simp [numC, manyN, hn]
  have hj' : 0 ≤ (j : Int) ∧ (j : Int) < (4 : Nat) := by omega
  have hs : (numC g).size = 4 := rfl
  generalize numC g = C at *
  simp [Instr.index, run_underlying hu, asIntOf, hj', part, hc, go_sem]
  intro hge
  omega
set_option maxRecDepth 100000 in
set_option maxHeartbeats 4000000 in
theorem every_in (m : Nat) (hm : 1 ≤ m) (g : MGrid) (n : Nat) (hn : g.nodes = n) (hns : g.srcs.length ≤ 100) (hnl : g.lines.length ≤ 100) (hnn : n ≤ 100) (A1 A2 A3 : Option Addr) (c1 c2 c3 : Nat) (l bx n₀ : Nat) (J Jx : List MFault → World → Prop) (W : World) (hJ : AbidesFrom W.heap.size J)
    (hY : ∀ pre x W1, J pre W1 → pre.length < (allF g n).length → YieldAt Fence.wide (m - 1) Try.prog l (encF x) W1 fun e W' =>
      (e = .returned (.bool true) ∧ J (pre ++ [x]) W' ∧ Below n₀ W1 W') ∨ (e = .returned (.bool false) ∧ Jx (pre ++ [x]) W'))
    (hbx : W.heap[bx]? = some (.cells (gridC g A1 A2 A3 c1 c2 c3) 26 (0, 0))) (h0 : J [] W) :
    CallsIn Fence.wide m Try.prog 100 #[.func (.yield l) #[] #[], .pointer (some ⟨bx, 0, none⟩)] W fun e W' => (∃ v, e = .returned v) ∧
      ((∃ ys, ys = allF g n ∧ J ys W') ∨ (∃ pre, pre <+: allF g n ∧ Jx pre W')) := by
  refine callsIn_of_wp Try.func100 rfl trivial ?_ rfl
  simp only [Try.ntmps100, List.size_toArray, List.length_cons, List.length_nil, Nat.reduceAdd, Nat.reduceSub, Array.replicate_succ, Array.replicate_zero, List.push_toArray, List.append_toArray, List.nil_append, List.cons_append]
  have hc0 := cell_of_row W bx 0 _ _ _ hbx
  have hc1 := cell_of_row W bx 1 _ _ _ hbx
  have hc2 := cell_of_row W bx 2 _ _ _ hbx
  have hc3 := cell_of_row W bx 3 _ _ _ hbx
  unfold gridC at hc0 hc1 hc2 hc3
  simp only [List.getElem?_toArray, List.getElem?_cons_succ, List.getElem?_cons_zero] at hc0 hc1 hc2 hc3
  have HIX : Hid (∀ j : Nat, j < 4 → ∀ w : World, (Instr.index 109 (.agg (numC g)) (.int .i64 (j : Int))).run Try.prog w = .ok (.int .i64 (manyN g n j)) w) := fun j hj w => run_index109 hn hj w
  have HNM := Lib.hid (numbers_any g A1 A2 A3 c1 c2 c3 W)
  unfold gridC at HNM
  have HML : Hid (∀ j, j < 4 → manyN g n j ≤ 100) := fun j hj => by
    unfold manyN
    split
    · omega
    · split
      · omega
      · split <;> omega
  have HLT4 : Hid (∀ j i, j < 4 → i < manyN g n j → (kindsL g n j ++ kindL j i).length < (allF g n).length) := fun j i hj hi => by
    rw [← kindsL_all]
    have key : ∀ a b, a ≤ b → (kindsL g n a).length ≤ (kindsL g n b).length := fun a b hab => by
      induction b with
      | zero => obtain rfl : a = 0 := by omega
                exact Nat.le_refl _
      | succ b ih =>
        rcases Nat.lt_or_ge a (b + 1) with h1 | h1
        · have := ih (by omega)
          show _ ≤ (kindsL g n b ++ kindL b (manyN g n b)).length
          rw [List.length_append]
          omega
        · obtain rfl : a = b + 1 := by omega
          exact Nat.le_refl _
    have h1 := key (j + 1) 4 (by omega)
    have h2 : (kindsL g n (j + 1)).length = (kindsL g n j).length + manyN g n j := by show (kindsL g n j ++ kindL j (manyN g n j)).length = _; rw [List.length_append, kindL_len]
    rw [List.length_append, kindL_len]
    omega
  have HPR : Hid (∀ j i, j < 4 → i ≤ manyN g n j → kindsL g n j ++ kindL j i <+: allF g n) := fun j i hj hi => by
    rw [← kindsL_all]
    have key : ∀ a b, a ≤ b → kindsL g n a <+: kindsL g n b := fun a b hab => by
      induction b with
      | zero => obtain rfl : a = 0 := by omega
                exact List.prefix_refl _
      | succ b ih =>
        rcases Nat.lt_or_ge a (b + 1) with h1 | h1
        · exact (ih (by omega)).trans (List.prefix_append _ _)
        · obtain rfl : a = b + 1 := by omega
          exact List.prefix_refl _
    refine List.IsPrefix.trans ?_ (key (j + 1) 4 (by omega))
    show _ <+: kindsL g n j ++ kindL j (manyN g n j)
    have e : kindL j (manyN g n j) = kindL j i ++ (kindL j (manyN g n j)).drop i := by
      have : kindL j i = (kindL j (manyN g n j)).take i := by
        unfold kindL
        rw [← List.map_take, List.take_range, Nat.min_eq_left hi]
      rw [this, List.take_append_drop]
    rw [e, ← List.append_assoc]
    exact List.prefix_append _ _
  have HAL : Hid (kindsL g n 4 = allF g n) := kindsL_all g n
  clear hn hns hnl hnn hbx
  gi_wp2_with (refine ⟨trivial, ?_⟩; gi_at_call 85; refine (callsIn_wide.2 HNM.out).mono ?_; rintro e w2 ⟨rfl, hb2⟩; have hj2 := hJ [] W w2 none h0 ⟨hb2.os, hb2.tape, hb2.output, hb2.size, fun k hk _ => hb2.block k hk⟩ (fun r e => by cases e); clear hb2)
  clear hc0 hc1 hc2 hc3 h0 hJ
  generalize numC g = NC at *
  gi_loopw [8] (fun v wr => ∃ j : Nat, v = .int .i64 j ∧ j ≤ 4 ∧ J (kindsL g n j) wr) (fun v _ => 4 - (intOf v).toNat)
  case atStart => exact ⟨0, rfl, by decide, hj2⟩
  case round =>
    clear hj2
    obtain ⟨j, rfl, hj, hJs⟩ := hrel
    by_cases hlt : j < 4
    · have hix := HIX.out j hlt
      have hml := HML.out j hlt
      gi_wp2
      (try rw [show decide ((j : Int) < 4) = true by simp; omega])
      gi_loopw [13] (fun v wy => ∃ i : Nat, v = .int .i64 i ∧ i ≤ manyN g n j ∧ J (kindsL g n j ++ kindL j i) wy) (fun v _ => manyN g n j - (intOf v).toNat)
      case atStart => exact ⟨0, rfl, Nat.zero_le _, by rw [show kindL j 0 = [] from rfl, List.append_nil]; exact hJs⟩
      case round =>
        clear hJs
        obtain ⟨i, rfl, hi, hJi⟩ := hrel
        by_cases hli : i < manyN g n j
        · obtain ⟨fn, tmps, assign, body, hy, hR⟩ := hY _ ⟨j, i⟩ _ hJi (HLT4.out j i hlt hli)
          unfold encF at hy
          dsimp only at hy
          gi_wp2
          refine hR.mono ?_
          rintro e W3 (⟨rfl, hJ3, hk3⟩ | ⟨rfl, hJx3⟩)
          · gi_wp2
            go_roundw
            case rel => exact ⟨i + 1, by go_num, by omega, by rw [kindL_step, ← List.append_assoc]; exact hJ3⟩
            case measure => simp [intOf]; omega
          · gi_wp2
            refine bodyPost_ret (results_none rfl _ _ _) rfl ?_
            refine ⟨⟨_, rfl⟩, .inr ⟨_, HPR.out j (i + 1) hlt hli, ?_⟩⟩
            rw [kindL_step, ← List.append_assoc]
            exact hJx3
        · obtain rfl : i = manyN g n j := by omega
          gi_wp2
          go_roundw
          case rel => exact ⟨j + 1, by go_num, by omega, hJi⟩
          case measure => simp [intOf]; omega
    · obtain rfl : j = 4 := by omega
      gi_wp2
      go_end0
      exact ⟨⟨_, rfl⟩, .inl ⟨_, HAL.out, hJs⟩⟩
/-- everything(g) gives all single faults, whatever the body does above n₀ -/
theorem every_stops (m : Nat) (hm : 1 ≤ m) (g : MGrid) (n : Nat) (hn : g.nodes = n) (hns : g.srcs.length ≤ 100) (hnl : g.lines.length ≤ 100) (hnn : n ≤ 100) (A1 A2 A3 : Option Addr) (c1 c2 c3 : Nat) (bx n₀ : Nat) (w : World) (hbx : w.heap[bx]? = some (.cells (gridC g A1 A2 A3 c1 c2 c3) 26 (0, 0))) :
    SeqStopsK Fence.wide m Try.prog 100 #[.pointer (some ⟨bx, 0, none⟩)] encF (Below n₀) (fun xs => xs = allF g n) (fun pre => pre <+: allF g n) (allF g n).length w :=
  fun l J Jx W hW hJ _ hY h0 => every_in m hm g n hn hns hnl hnn A1 A2 A3 c1 c2 c3 l bx n₀ J Jx W hJ hY ((hW.block bx (lt_of_cells hbx)).trans hbx) h0
end Go.Proofs.Ytegclodchhcbaaa
