/- Walk: reach, the search by breadth in a net. -/
import Derived.Test.YtegclodchhcbaaaQu
import Derived.Deep.Cut
import Derived.Deep.CutBlock
namespace Go.Proofs.Ytegclodchhcbaaa
open Go.RowKit

def allQ (Q : List Nat) : List Int := List.map (fun x : Nat => (x : Int)) Q
def preB (i : Nat) : Nat → Int := fun k => if k < i then -1 else 0
theorem pre_zero (k : Nat) : (0 : Int) = preB 0 k := by unfold preB; rw [if_neg (by omega)]
theorem pre_step (i k : Nat) : setB (preB i) i (-1) k = preB (i + 1) k := by
  unfold setB preB
  by_cases e : k = i
  · rw [if_pos e, if_pos (by omega)]
  · rw [if_neg e]
    by_cases e2 : k < i
    · rw [if_pos e2, if_pos (by omega)]
    · rw [if_neg e2, if_neg (by omega)]
theorem pre_full (b : Nat) (v : Int) (k : Nat) (hk : k < 22) : setB (preB 22) b v k = setB (fun _ => -1) b v k := by
  unfold setB preB
  rw [if_pos hk]
/-- the search's memory between two rounds -/
def SeeW (w : World) (back : Nat → Int) (Q : List Nat) (v : Value) (wr : World) : Prop :=
  RowA wr (w.heap.size + 1) back ∧ RowA wr w.heap.size (fun _ => 0) ∧ wr.heap[w.heap.size + 2]? = some (.cells #[v] 123 (0, 0)) ∧ QueA wr (w.heap.size + 3) v (allQ Q) ∧ Below w.heap.size w wr ∧ w.heap.size + 3 ≤ wr.heap.size
theorem SeeW.take {w : World} {back : Nat → Int} {Q Q' : List Nat} {v v' : Value} {wr w1 : World} (h : SeeW w back Q v wr) (hq : w1.heap[w.heap.size + 2]? = some (.cells #[v'] 123 (0, 0))) (hQ : QueA w1 (w.heap.size + 3) v' (allQ Q')) (hb : Below (w.heap.size + 2) wr w1) : SeeW w back Q' v' w1 := by
  obtain ⟨h1, h2, h3, h4, h5, h6⟩ := h
  exact ⟨h1.keep (hb.block _ (by omega)), h2.keep (hb.block _ (by omega)), hq, hQ, h5.trans (hb.mono (by omega)), Nat.le_trans h6 hb.size⟩
theorem SeeW.mark {w : World} {back : Nat → Int} {Q : List Nat} {v : Value} {wr : World} (h : SeeW w back Q v wr) (j : Nat) (x : Int) : SeeW w (setB back j x) Q v (wr.setCell ⟨w.heap.size + 1, j, none⟩ (.int .i64 x)) := by
  obtain ⟨h1, h2, h3, h4, h5, h6⟩ := h
  have hx : ∀ b, b ≠ w.heap.size + 1 → (wr.setCell ⟨w.heap.size + 1, j, none⟩ (.int .i64 x)).heap[b]? = wr.heap[b]? := fun b hb => Below.heap_setCell wr ⟨w.heap.size + 1, j, none⟩ _ b hb
  exact ⟨h1.set j x, h2.keep (hx _ (by omega)), (hx _ (by omega)).trans h3, h4.keep fun b hb _ => hx b (by omega), h5.setCell (p := ⟨w.heap.size + 1, j, none⟩) (Nat.le_succ _) _, by simpa using h6⟩
set_option maxRecDepth 100000 in
set_option maxHeartbeats 4000000 in
theorem reach_any (nb : Nat) (c : Tab) (b : Nat) (w : World) (h : TabA w nb c) (hb : b < 22) : Calls Try.prog 67 #[.pointer (some ⟨nb, 0, none⟩), .int .i64 b] w fun e w' => (∃ C back, e = .returned (.agg C) ∧ RowB C back ∧ BackOk 22 c b back) ∧ Below w.heap.size w w' := by
  have hnb := h.lt
  have HTA := Lib.hid h
  clear h
  obtain ⟨w1, hw1⟩ : ∃ w1, (w.alloc (.cells #[.int .i64 0, .int .i64 0, .int .i64 0, .int .i64 0, .int .i64 0, .int .i64 0, .int .i64 0, .int .i64 0, .int .i64 0, .int .i64 0, .int .i64 0, .int .i64 0, .int .i64 0, .int .i64 0, .int .i64 0, .int .i64 0, .int .i64 0, .int .i64 0, .int .i64 0, .int .i64 0, .int .i64 0, .int .i64 0] 83)) = w1 := ⟨_, rfl⟩
  obtain ⟨w2, hw2⟩ : ∃ w2, (w1.alloc (.cells #[.int .i64 0, .int .i64 0, .int .i64 0, .int .i64 0, .int .i64 0, .int .i64 0, .int .i64 0, .int .i64 0, .int .i64 0, .int .i64 0, .int .i64 0, .int .i64 0, .int .i64 0, .int .i64 0, .int .i64 0, .int .i64 0, .int .i64 0, .int .i64 0, .int .i64 0, .int .i64 0, .int .i64 0, .int .i64 0] 83)) = w2 := ⟨_, rfl⟩
  have hs1 : w1.heap.size = w.heap.size + 1 := by rw [← hw1]; simp
  have hs2 : w2.heap.size = w.heap.size + 2 := by rw [← hw2]; simp [hs1]
  have hr1 : RowA w1 w.heap.size (fun _ => 0) := by rw [← hw1]; exact ⟨_, heap_alloc_new w _, row_zero⟩
  have hr2 : RowA w2 (w.heap.size + 1) (fun _ => 0) := by rw [← hw2, ← hs1]; exact ⟨_, heap_alloc_new w1 _, row_zero⟩
  have hr12 : RowA w2 w.heap.size (fun _ => 0) := hr1.keep (by rw [← hw2]; exact Below.heap_alloc _ _ _ (by omega))
  have hb2 : Below w.heap.size w w2 := by rw [← hw2, ← hw1]; exact ((Below.refl _ _).alloc (Nat.le_refl _) _).alloc (by simp) _
  have HR2 := Lib.hid hr2
  have HR12 := Lib.hid hr12
  have HB2 := Lib.hid hb2
  have HS2 := Lib.hid hs2
  clear hr1 hr2 hr12 hb2
  go_enter Try.func67, Try.ntmps67
  go_wp2_with fail
  go_loopw [11] (fun vi wr => ∃ i : Nat, i ≤ 22 ∧ vi = .int .i64 i ∧ Hid (RowA wr (w.heap.size + 1) (preB i)) ∧ Hid (RowA wr w.heap.size (fun _ => 0)) ∧ Hid (Below w.heap.size w wr) ∧ wr.heap.size = w.heap.size + 2) (fun vi _ => 22 - (intOf vi).toNat)
  case atStart => exact ⟨0, by omega, rfl, HR2.out.congr fun i _ => pre_zero i, HR12, HB2, HS2.out⟩
  case round =>
    clear HR2 HR12 HB2 HS2 hs2
    obtain ⟨i, hi, rfl, HR, HZ, HB, hs⟩ := hrel
    rename World => wr
    by_cases hlt : i < 22
    · have c0 := HR.out.cell hlt
      have f0 := HR.out.fr i
      go_wp2_with fail
      go_roundw
      case rel =>
        exact ⟨i + 1, hlt, by go_num, (HR.out.set i (-1)).congr fun k _ => pre_step i k, HZ.out.keep (Below.heap_setCell wr ⟨w.heap.size + 1, i, none⟩ _ _ (by show w.heap.size ≠ w.heap.size + 1; omega)), HB.out.setCell (p := ⟨w.heap.size + 1, i, none⟩) (Nat.le_succ _) _, by simpa using hs⟩
      case measure => simp [intOf]; omega
    · obtain rfl : i = 22 := by omega
      have c0 := HR.out.cell hb
      have f0 := HR.out.fr b
      have HR3 : Hid (RowA (wr.setCell ⟨w.heap.size + 1, b, none⟩ (.int .i64 b)) (w.heap.size + 1) (setB (fun _ => -1) b b)) := (HR.out.set b b).congr fun k hk => pre_full b b k hk
      have hsz : (wr.setCell ⟨w.heap.size + 1, b, none⟩ (.int .i64 b)).heap.size = w.heap.size + 2 := by simpa using hs
      have HSE : Hid (SeeW w (setB (fun _ => -1) b b) [] (.slice none 0 0) ((wr.setCell ⟨w.heap.size + 1, b, none⟩ (.int .i64 b)).alloc (.cells #[.slice none 0 0] 123))) := by
        have hz : RowA (wr.setCell ⟨w.heap.size + 1, b, none⟩ (.int .i64 b)) w.heap.size (fun _ => 0) := HZ.out.keep (Below.heap_setCell wr ⟨w.heap.size + 1, b, none⟩ _ _ (by show w.heap.size ≠ w.heap.size + 1; omega))
        refine ⟨HR3.out.keep (Below.heap_alloc _ _ _ (by simp [hs])), hz.keep (Below.heap_alloc _ _ _ (by simp [hs])), ?_, .inl ⟨rfl, rfl⟩, (HB.out.setCell (p := ⟨w.heap.size + 1, b, none⟩) (Nat.le_succ _) _).alloc (by simp; omega) _, by simp [hs]⟩
        have := heap_alloc_new (wr.setCell ⟨w.heap.size + 1, b, none⟩ (.int .i64 b)) (.cells #[.slice none 0 0] 123)
        rw [hsz] at this
        exact this
      have HB3 : Hid (setB (fun _ => -1) b b b = b) := setB_same _ _ _
      have HST : Hid (Bfs 22 c b (setB (fun _ => -1) b b) [b]) := Bfs.start hb
      have hsa : w.heap.size + 3 ≤ ((wr.setCell ⟨w.heap.size + 1, b, none⟩ (.int .i64 b)).alloc (.cells #[.slice none 0 0] 123)).heap.size := HSE.out.2.2.2.2.2
      clear HR HZ HB
      go_wp2_with (go_at_call 98; refine (put_any (w.heap.size + 2) b (.slice none 0 0) [] (w.heap.size + 3) _ HSE.out.2.2.1 HSE.out.2.2.2.1 (by omega) (by decide) hsa).mono ?_; rintro e w5 ⟨rfl, v5, hq5, hQ5, hb5, _, _⟩; have HS5 : Hid (SeeW w (setB (fun _ => -1) b b) [b] v5 w5) := HSE.out.take hq5 hQ5 hb5; clear hq5 hQ5 hb5)
      clear hsa HB3 HR3 HSE
      go_loopw [8] (fun _ wr => ∃ back Q v, Hid (SeeW w back Q v wr) ∧ Hid (Bfs 22 c b back Q)) (fun _ wr => muQ wr (w.heap.size + 1) (w.heap.size + 2))
      case atStart => exact ⟨_, _, v5, HS5, HST⟩
      case round =>
        clear HS5 HST hs hsz
        obtain ⟨back, Q, v, HS, HF⟩ := hrel
        rename World => wq
        obtain ⟨A, cap, hv⟩ := HS.out.2.2.2.1.form
        subst hv
        have hlq : (allQ Q).length = Q.length := by simp [allQ]
        have q0 := cell_of_row wq (w.heap.size + 2) 0 _ _ _ HS.out.2.2.1
        simp only [List.getElem?_toArray, List.getElem?_cons_zero] at q0
        rw [hlq] at q0
        have HMU : Hid (muQ wq (w.heap.size + 1) (w.heap.size + 2) = 2 * (22 - cntN back 22) + Q.length) := muQ_of HS.out.1 q0
        rcases Q with _ | ⟨x, Q⟩
        · have HBO : Hid (BackOk 22 c b back) := HF.out.backOk
          obtain ⟨C, hC, hh, hld⟩ := HS.out.1.load
          obtain ⟨old, hold, ho1, ho2⟩ := HS.out.2.1
          have HC := Lib.hid hC
          have HLD := Lib.hid hh
          have HOLD := Lib.hid hold
          have hos : old.size = C.size := by rw [ho1, hC.1]
          have HOS := Lib.hid hos
          clear hC hh hlq hld hold ho1 ho2 hos
          go_wp2_with (first
            | (refine wpList_load_row rfl 83 _ rfl (w.heap.size + 1) rfl 83 C (0, 0) (.array 22 3) HLD.out Try.underlying83 rfl HC.out.sz ?_)
            | (refine wpList_store_row rfl 83 _ _ rfl w.heap.size C rfl rfl 83 old HOLD.out HC.out.sz HOS.out HC.out.one ?_))
          exact bodyPost_ret (results_cell_row rfl _ _ w.heap.size 83 C (0, 0) (.array 22 3) rfl (setRow_heap wq w.heap.size old C 83 (0, 0) HOLD.out) Try.underlying83 rfl HC.out.sz) rfl ⟨⟨C, back, rfl, HC.out, HBO.out⟩, below_setRow HS.out.2.2.2.2.1 (Nat.le_refl _) C⟩
        · have hx22 := (HF.out.ok.q x (List.mem_cons_self ..)).1
          have hlen : Q.length + 1 ≤ 22 := by
            have h1 := HF.out.ok.len
            have h2 := cntN_le back 22
            simp only [List.length_cons] at h1
            omega
          have HM0 : Hid (BfsM 22 c b back Q x 0) := HF.out.pop
          have hcn := cntN_le back 22
          have HTK := Lib.hid (take_any (w.heap.size + 2) x _ (allQ Q) (w.heap.size + 3) wq HS.out.2.2.1 HS.out.2.2.2.1 (by omega) (by simp [allQ]; omega))
          have HTB : Hid (∀ W, Below w.heap.size w W → TabA W nb c) := fun W hW => HTA.out.keep (hW.block nb hnb)
          clear HF hlq
          go_upto_region 12 with (go_at_call 99; refine HTK.out.mono ?_; rintro e w6 ⟨rfl, v6, hq6, hQ6, hb6, _, _⟩; have HS6 : Hid (SeeW w back Q v6 w6) := HS.out.take hq6 hQ6 hb6; clear hq6 hQ6 hb6)
          obtain ⟨R, hRB, hRA, hRS⟩ := (HTB.out w6 HS6.out.2.2.2.2.1).row hx22
          have HRB := Lib.hid hRB
          have HRA := Lib.hid hRA
          have HRS := Lib.hid hRS
          have HIX : Hid (∀ j : Nat, j < 22 → ∀ w' : World, (Instr.index 83 (.agg R.toArray) (.int .i64 (j : Int))).run Try.prog w' = .ok (.int .i64 (c x j)) w') := fun j hj w' => run_index83 hRB hj w'
          clear hRB hRA hRS HS q0 HTK
          go_wp2_with (refine wpList_load_mid rfl 83 _ rfl nb (x * 22) rfl R (.array 22 3) HRA.out Try.underlying83 rfl HRS.out ?_)
          have HMW : Hid (muQ wq (w.heap.size + 1) (w.heap.size + 2) = 2 * (22 - cntN back 22) + (Q.length + 1)) := HMU.out
          go_loopw [39] (fun vj wy => ∃ j : Nat, j ≤ 22 ∧ vj = .int .i64 j ∧ ∃ back2 Q2 v2, Hid (SeeW w back2 Q2 v2 wy) ∧ Hid (BfsM 22 c b back2 Q2 x j) ∧ 2 * (22 - cntN back2 22) + Q2.length ≤ 2 * (22 - cntN back 22) + Q.length) (fun vj _ => 22 - (intOf vj).toNat)
          case atStart => exact ⟨0, by omega, rfl, back, Q, v6, HS6, HM0, Nat.le_refl _⟩
          case round =>
            clear HS6 HM0 HMU
            obtain ⟨j, hj, rfl, back2, Q2, v2, HSY, HMY, hmu⟩ := hrel
            rename World => wy
            have HMZ := Lib.hid hmu
            clear hmu
            by_cases hlt : j < 22
            · have hix := HIX.out j hlt
              have cj := HSY.out.1.cell hlt
              have fj := HSY.out.1.fr j
              have hjw : w.heap.size + 1 < wy.heap.size := HSY.out.1.lt
              by_cases hcx : 0 < c x j
              · by_cases hbj : back2 j < 0
                · have HMT : Hid (BfsM 22 c b (setB back2 j x) (Q2 ++ [j]) x (j + 1)) := HMY.out.take hlt hcx hbj
                  have HSM := Lib.hid (HSY.out.mark j x)
                  have hcs := cntN_set (v := (x : Int)) hbj (by omega) hlt
                  have hcl := cntN_le (setB back2 j x) 22
                  have HQL : Hid (Q2.length ≤ 22) := by have h1 := HMY.out.ok.len; have h2 := cntN_le back2 22; show _ ≤ _; omega
                  have HPT := Lib.hid (put_any (w.heap.size + 2) j _ (allQ Q2) (w.heap.size + 3) _ HSM.out.2.2.1 HSM.out.2.2.2.1 (by omega) (by have := HQL.out; simp [allQ]; omega) HSM.out.2.2.2.2.2)
                  have hal : allQ Q2 ++ [(j : Int)] = allQ (Q2 ++ [j]) := by simp [allQ]
                  rw [hal] at HPT
                  have HMN : Hid (2 * (22 - cntN (setB back2 j x) 22) + (Q2 ++ [j]).length ≤ 2 * (22 - cntN back 22) + Q.length) := by
                    have := HMZ.out
                    rw [hcs] at hcl
                    rw [List.length_append, List.length_cons, List.length_nil, hcs]
                    show _ ≤ _
                    omega
                  clear hcs hcl hal HMY HSY
                  go_wp2_with (go_at_call 98; refine HPT.out.mono ?_; rintro e w9 ⟨rfl, v9, hq9, hQ9, hb9, _, _⟩; have HS9 : Hid (SeeW w (setB back2 j x) (Q2 ++ [j]) v9 w9) := HSM.out.take hq9 hQ9 hb9; clear hq9 hQ9 hb9)
                  go_roundw
                  case rel => exact ⟨j + 1, hlt, by go_num, _, _, v9, HS9, HMT, HMN.out⟩
                  case measure => simp [intOf]; omega
                · have HMT : Hid (BfsM 22 c b back2 Q2 x (j + 1)) := HMY.out.skip (.inr (by omega))
                  clear HMY
                  go_wp2_with fail
                  go_roundw
                  case rel => exact ⟨j + 1, hlt, by go_num, _, _, v2, HSY, HMT, HMZ.out⟩
                  case measure => simp [intOf]; omega
              · have HMT : Hid (BfsM 22 c b back2 Q2 x (j + 1)) := HMY.out.skip (.inl (by omega))
                clear HMY
                go_wp2_with fail
                go_roundw
                case rel => exact ⟨j + 1, hlt, by go_num, _, _, v2, HSY, HMT, HMZ.out⟩
                case measure => simp [intOf]; omega
            · obtain rfl : j = 22 := by omega
              have HFN : Hid (Bfs 22 c b back2 Q2) := HMY.out.finish
              go_wp2_with fail
              go_roundw
              case rel => exact ⟨_, _, v2, HSY, HFN⟩
              case measure =>
                obtain ⟨A2, cap2, hv2⟩ := HSY.out.2.2.2.1.form
                have hlq2 : (allQ Q2).length = Q2.length := by simp [allQ]
                have q2 := cell_of_row wy (w.heap.size + 2) 0 _ _ _ HSY.out.2.2.1
                simp only [List.getElem?_toArray, List.getElem?_cons_zero] at q2
                rw [hv2, hlq2] at q2
                have h1 := muQ_of HSY.out.1 q2
                have h2 := HMW.out
                have h3 := HMZ.out
                omega
end Go.Proofs.Ytegclodchhcbaaa
