/- Walks: the reference's table in memory; before, its search. -/
import Derived.Test.YtegclodchhcbaaaRe
namespace Go.Proofs.Ytegclodchhcbaaa
open Go.RowKit

/-- a table of rows, all of the call's own -/
structure RTabA (w : World) (B tb N : Nat) (rb : Nat → Nat) (c : Tab) : Prop where
  out : OwnF w tb 28 N (fun i => .slice (some ⟨rb i, 0, none⟩) N N)
  row : ∀ i, i < N → OwnF w (rb i) 3 N (fun k => .int .i64 (c i k))
  bt : B ≤ tb
  br : ∀ i, i < N → B ≤ rb i
  ne : ∀ i, i < N → rb i ≠ tb
  inj : ∀ i j, i < N → j < N → rb i = rb j → i = j
theorem RTabA.below {w w' : World} {B B' tb N : Nat} {rb : Nat → Nat} {c : Tab} (h : RTabA w B tb N rb c) (hb : Below B' w w') (hB : w.heap.size ≤ B') : RTabA w' B tb N rb c :=
  ⟨h.out.below hb (Nat.lt_of_lt_of_le h.out.lt hB), fun i hi => (h.row i hi).below hb (Nat.lt_of_lt_of_le (h.row i hi).lt hB), h.bt, h.br, h.ne, h.inj⟩
def muR (w : World) (g N : Nat) : Nat := 2 * (N - cntN (fun k => cellI w ⟨g, k, none⟩) N)
def lenQ (v : Value) : Nat := match v with | .slice _ n _ => n | _ => 0
theorem muR_of {w : World} {g N : Nat} {f : Nat → Int} (h : OwnF w g 3 N (fun k => .int .i64 (f k))) : muR w g N = 2 * (N - cntN f N) := by
  unfold muR
  rw [cntN_congr (back' := f) fun k hk => by unfold cellI; rw [h.cell hk]]
theorem OwnF.put {w : World} {g N : Nat} {f : Nat → Int} (h : OwnF w g 3 N (fun k => .int .i64 (f k))) (j : Nat) (x : Int) : OwnF (w.setCell ⟨g, j, none⟩ (.int .i64 x)) g 3 N (fun k => .int .i64 (setB f j x k)) :=
  (h.set j (.int .i64 x)).congr fun i _ => by
    show (if i = j then Value.int .i64 x else .int .i64 (f i)) = .int .i64 (setB f j x i)
    unfold setB
    split <;> rfl
theorem QueA.tail {w : World} {B g off cap : Nat} {x : Int} {Q : List Int} (h : QueA w B (.slice (some ⟨g, off, none⟩) (Q.length + 1) cap) (x :: Q)) :
    w.cell? ⟨g, off, none⟩ = some (.int .i64 x) ∧ Q.length + 1 ≤ cap ∧ cap ≤ maxLen ∧ (cap = 1 → QueA w B (.slice (some ⟨g, off, none⟩) 0 0) Q) ∧ QueA w B (.slice (some ⟨g, off + 1, none⟩) Q.length (cap - 1)) Q := by
  rcases h with ⟨hv, _⟩ | ⟨g', off', cap', hv, hb, h1, hm, C, hh, h2, h3⟩
  · cases hv
  · injection hv with e1 e2 e3
    injection e1 with e1
    injection e1 with e4 e5
    subst e3 e4 e5
    simp only [List.length_cons] at h1 h3
    refine ⟨?_, h1, hm, fun hc => ?_, .inr ⟨g, off + 1, cap - 1, rfl, hb, by omega, by unfold maxLen at *; omega, C, hh, by omega, fun j hj => ?_⟩⟩
    · rw [cell_of_row w g _ C 3 (0, 0) hh]
      exact h3 0 (by omega)
    · obtain rfl : Q = [] := List.eq_nil_of_length_eq_zero (by omega)
      exact .inr ⟨g, off, 0, rfl, hb, Nat.le_refl _, by decide, C, hh, by omega, fun j hj => absurd hj (Nat.not_lt_zero _)⟩
    · have := h3 (j + 1) (by omega)
      rw [show off + 1 + j = off + (j + 1) by omega, this]
      rfl
/-- the search's memory -/
structure SeeR (w : World) (N : Nat) (back : Nat → Int) (Q : List Nat) (v : Value) (wr : World) : Prop where
  own : OwnF wr w.heap.size 3 N (fun k => .int .i64 (back k))
  que : QueA wr (w.heap.size + 1) v (allQ Q)
  bel : Below w.heap.size w wr
theorem SeeR.mark {w : World} {N : Nat} {back : Nat → Int} {Q : List Nat} {v : Value} {wr : World} (h : SeeR w N back Q v wr) (j : Nat) (x : Int) : SeeR w N (setB back j x) Q v (wr.setCell ⟨w.heap.size, j, none⟩ (.int .i64 x)) :=
  ⟨h.own.put j x, h.que.keep fun b hb _ => Below.heap_setCell wr ⟨w.heap.size, j, none⟩ _ b (by show b ≠ w.heap.size; omega), h.bel.setCell (p := ⟨w.heap.size, j, none⟩) (Nat.le_refl _) _⟩
theorem SeeR.later {w : World} {N : Nat} {back : Nat → Int} {Q Q' : List Nat} {v v' : Value} {wr w1 : World} (h : SeeR w N back Q v wr) (hQ : QueA w1 (w.heap.size + 1) v' (allQ Q')) (hb : Below (w.heap.size + 1) wr w1) : SeeR w N back Q' v' w1 :=
  ⟨h.own.below hb (Nat.lt_succ_self _), hQ, h.bel.trans (hb.mono (Nat.le_succ _))⟩
set_option maxRecDepth 100000 in
set_option maxHeartbeats 8000000 in
theorem before_any (B tb N : Nat) (rb : Nat → Nat) (c : Tab) (w : World) (h : RTabA w B tb N rb c) (hN : 3 ≤ N ∧ N ≤ 22) :
    Calls Try.prog 68 #[.slice (some ⟨tb, 0, none⟩) N N] w fun e w' => (∃ g back, e = .returned (.slice (some ⟨g, 0, none⟩) N N) ∧ OwnF w' g 3 N (fun k => .int .i64 (back k)) ∧ w.heap.size ≤ g ∧ BackOk N c (N - 2) back) ∧ Below w.heap.size w w' := by
  have HT : Hid (∀ W, Below w.heap.size w W → RTabA W B tb N rb c) := fun W hW => h.below hW (Nat.le_refl _)
  have HNI : Hid (((N - 2 : Nat) : Int) = (N : Int) - 2) := by show _ = _; omega
  clear h
  go_enter Try.func68, Try.ntmps68
  go_wp2_with (at_make; refine mk_ints _ rfl _ _ rfl N rfl rfl (by omega) ?_; intro w2 hO2 hb2'; have HO2 := Lib.hid hO2; have HB2 := Lib.hid hb2'; clear hO2 hb2')
  go_loopw [5] (fun vi wr => ∃ i : Nat, i ≤ N ∧ vi = .int .i64 i ∧ Hid (OwnF wr w.heap.size 3 N (fun k => .int .i64 (preB i k))) ∧ Hid (Below w.heap.size w wr)) (fun vi _ => N - (intOf vi).toNat)
  case atStart => exact ⟨0, Nat.zero_le _, rfl, HO2.out.congr fun k _ => by rw [← pre_zero k], HB2⟩
  case round =>
    clear HO2 HB2
    obtain ⟨i, hi, rfl, HO, HB⟩ := hrel
    rename World => wr
    by_cases hlt : i < N
    · have c0 := HO.out.cell hlt
      have f0 := HO.out.frozen i
      go_wp2_with fail
      go_roundw
      case rel => exact ⟨i + 1, hlt, by go_num, (HO.out.put i (-1)).congr fun k _ => by rw [pre_step i k], HB.out.setCell (p := ⟨w.heap.size, i, none⟩) (Nat.le_refl _) _⟩
      case measure => simp [intOf]; omega
    · obtain rfl : N = i := by omega
      have hg := HO.out.lt
      have c0 := HO.out.cell (j := N - 2) (by omega)
      have f0 := HO.out.frozen (N - 2)
      have HO3 : Hid (OwnF (wr.setCell ⟨w.heap.size, N - 2, none⟩ (.int .i64 ((N : Int) - 2))) w.heap.size 3 N (fun k => .int .i64 (setB (fun _ => -1) (N - 2) (N - 2 : Nat) k))) := (HO.out.put (N - 2) ((N : Int) - 2)).congr fun k hk => by
        rw [HNI.out]
        congr 1
        unfold setB preB
        rw [if_pos hk]
      have HSE : Hid (SeeR w N (setB (fun _ => -1) (N - 2) (N - 2 : Nat)) [N - 2] (.slice (some ⟨wr.heap.size, 0, none⟩) 1 1) ((wr.setCell ⟨w.heap.size, N - 2, none⟩ (.int .i64 ((N : Int) - 2))).alloc (.cells #[.int .i64 ((N : Int) - 2)] 3))) := by
        have hz := heap_alloc_new (wr.setCell ⟨w.heap.size, N - 2, none⟩ (.int .i64 ((N : Int) - 2))) (.cells #[.int .i64 ((N : Int) - 2)] 3)
        have hsz : (wr.setCell ⟨w.heap.size, N - 2, none⟩ (.int .i64 ((N : Int) - 2))).heap.size = wr.heap.size := by simp
        rw [hsz] at hz
        refine ⟨HO3.out.alloc _, .inr ⟨wr.heap.size, 0, 1, rfl, by omega, Nat.le_refl _, by decide, _, hz, by simp, fun j hj => ?_⟩, (HB.out.setCell (p := ⟨w.heap.size, N - 2, none⟩) (Nat.le_refl _) _).alloc (by simp; omega) _⟩
        have hj0 : j = 0 := by simp [allQ] at hj; omega
        subst hj0
        simp [allQ]
        omega
      have HST : Hid (Bfs N c (N - 2) (setB (fun _ => -1) (N - 2) (N - 2 : Nat)) [N - 2]) := Bfs.start (by omega)
      clear HO HB HO3
      go_wp2_with fail
      clear c0 f0
      go_loopw [6] (fun vq wq => ∃ back Q, Hid (SeeR w N back Q vq wq) ∧ Hid (Bfs N c (N - 2) back Q)) (fun vq wq => muR wq w.heap.size N + lenQ vq)
      case atStart => exact ⟨_, _, HSE, HST⟩
      case round =>
        clear HSE HST
        obtain ⟨back, Q, HS, HF⟩ := hrel
        rename World => wq
        obtain ⟨A, cap, hv⟩ := HS.out.que.form
        have hlq : (allQ Q).length = Q.length := by simp [allQ]
        rw [hlq] at hv
        subst hv
        have HMU : Hid (muR wq w.heap.size N = 2 * (N - cntN back N)) := muR_of HS.out.own
        rcases Q with _ | ⟨x, Q⟩
        · have HBO : Hid (BackOk N c (N - 2) back) := HF.out.backOk
          clear hlq
          go_wp2_with fail
          go_ret
          exact ⟨⟨_, back, rfl, HS.out.own, Nat.le_refl _, HBO.out⟩, HS.out.bel⟩
        · rw [List.length_cons]
          have hxN := (HF.out.ok.q x (List.mem_cons_self ..)).1
          have hlen : Q.length + 1 ≤ N := by
            have h1 := HF.out.ok.len
            have h2 := cntN_le back N
            simp only [List.length_cons] at h1
            omega
          have HM0 : Hid (BfsM N c (N - 2) back Q x 0) := HF.out.pop
          have hcn := cntN_le back N
          have hqf := HS.out.que
          rcases hqf with ⟨hv, _⟩ | ⟨gq, oq, cq, hv, _⟩
          · cases hv
          injection hv with hA hl2 hcq
          subst hA hcq
          have hq2 : QueA wq (w.heap.size + 1) (.slice (some ⟨gq, oq, none⟩) ((allQ Q).length + 1) cap) ((x : Int) :: allQ Q) := by
            have h9 := HS.out.que
            have hl9 : (x :: Q).length = (allQ Q).length + 1 := by simp [allQ]
            rw [hl9] at h9
            exact h9
          obtain ⟨cx, hcap1, hcapm, HQ1, HQ2⟩ := hq2.tail
          have HQ1' := Lib.hid HQ1
          have hlq2 : (allQ Q).length = Q.length := by simp [allQ]
          rw [hlq2] at HQ2 hcap1
          have HQ2' := Lib.hid HQ2
          unfold maxLen at hcapm
          have HSS : Hid (OwnF wq w.heap.size 3 N (fun k => .int .i64 (back k)) ∧ Below w.heap.size w wq) := ⟨HS.out.own, HS.out.bel⟩
          have HMW : Hid (muR wq w.heap.size N = 2 * (N - cntN back N)) := HMU.out
          clear HQ1 HQ2 hq2 HF hlq hl2 HS HMU hlq2
          by_cases hc1 : cap = 1
          · subst hc1
            obtain rfl : Q = [] := List.eq_nil_of_length_eq_zero (by omega)
            rw [show ([] : List Nat).length + 1 = 1 from rfl]
            have HS1 : Hid (SeeR w N back ([] : List Nat) (.slice (some ⟨gq, oq, none⟩) 0 0) wq) := ⟨HSS.out.1, HQ1'.out rfl, HSS.out.2⟩
            clear HQ1' HQ2' HSS
            go_wp2_with fail
            go_loopw [8, 6] (fun vj vq wy => ∃ j : Nat, j ≤ N ∧ vj = .int .i64 j ∧ ∃ back2 Q2, Hid (SeeR w N back2 Q2 vq wy) ∧ Hid (BfsM N c (N - 2) back2 Q2 x j) ∧ 2 * (N - cntN back2 N) + Q2.length ≤ 2 * (N - cntN back N) + 0) (fun vj _ _ => N - (intOf vj).toNat)
            case atStart => exact ⟨0, by omega, rfl, back, ([] : List Nat), HS1, HM0, Nat.le_refl _⟩
            case round =>
              clear HS1 HM0 cx
              obtain ⟨j, hj, rfl, back2, Q2, HSY, HMY, hmu⟩ := hrel
              rename World => wy
              obtain ⟨A2, cap2, hv2⟩ := HSY.out.que.form
              have hlq2 : (allQ Q2).length = Q2.length := by simp [allQ]
              rw [hlq2] at hv2
              subst hv2
              clear hlq2
              have HMZ := Lib.hid hmu
              clear hmu
              by_cases hlt : j < N
              · have hRT := HT.out wy HSY.out.bel
                have ca := hRT.out.cell hxN
                have cb := (hRT.row x hxN).cell hlt
                have cj := HSY.out.own.cell hlt
                have fj := HSY.out.own.frozen j
                have hjw : w.heap.size < wy.heap.size := HSY.out.own.lt
                clear hRT
                by_cases hbj : back2 j < 0
                · by_cases hcx : 0 < c x j
                  · have HMT : Hid (BfsM N c (N - 2) (setB back2 j x) (Q2 ++ [j]) x (j + 1)) := HMY.out.take hlt hcx hbj
                    have HSM := Lib.hid (HSY.out.mark j x)
                    have hcs := cntN_set (v := (x : Int)) hbj (by omega) hlt
                    have hcl := cntN_le (setB back2 j x) N
                    have HQL : Hid ((allQ Q2).length ≤ 1000000) := by have h1 := HMY.out.ok.len; have h2 := cntN_le back2 N; show _ ≤ _; simp [allQ]; omega
                    have HMN : Hid (2 * (N - cntN (setB back2 j x) N) + (Q2 ++ [j]).length ≤ 2 * (N - cntN back N) + 0) := by
                      have := HMZ.out
                      rw [hcs] at hcl
                      rw [List.length_append, List.length_cons, List.length_nil, hcs]
                      show _ ≤ _
                      omega
                    have hxs : ((wy.setCell ⟨w.heap.size, j, none⟩ (.int .i64 x))).heap.size = wy.heap.size := by simp
                    have HC0 : Hid (((wy.setCell ⟨w.heap.size, j, none⟩ (.int .i64 x)).alloc (.cells #[.int .i64 j] 3)).cell? ⟨wy.heap.size, 0, none⟩ = some (.int .i64 j)) := by
                      have h1 := newcell (wy.setCell ⟨w.heap.size, j, none⟩ (.int .i64 x)) #[.int .i64 j] 3 0
                      rw [hxs] at h1
                      exact h1
                    have HQ9 : Hid (QueA ((wy.setCell ⟨w.heap.size, j, none⟩ (.int .i64 x)).alloc (.cells #[.int .i64 j] 3)) (w.heap.size + 1) (.slice A2 Q2.length cap2) (allQ Q2)) := HSM.out.que.keep fun b _ hb => Below.heap_alloc _ _ _ hb
                    have HB9 : Hid (w.heap.size + 1 ≤ ((wy.setCell ⟨w.heap.size, j, none⟩ (.int .i64 x)).alloc (.cells #[.int .i64 j] 3)).heap.size) := by show _ ≤ _; simp; omega
                    have HA9 : Hid (Below (w.heap.size + 1) (wy.setCell ⟨w.heap.size, j, none⟩ (.int .i64 x)) ((wy.setCell ⟨w.heap.size, j, none⟩ (.int .i64 x)).alloc (.cells #[.int .i64 j] 3))) := (Below.refl _ _).alloc (by rw [hxs]; omega) _
                    have HAL : Hid (allQ Q2 ++ [(j : Int)] = allQ (Q2 ++ [j])) := by show _ = _; simp [allQ]
                    clear hcs hcl HMY HSY hxs
                    go_wp2_with (at_builtin; refine app_que _ rfl _ _ rfl (w.heap.size + 1) _ (allQ Q2) rfl HQ9.out wy.heap.size j rfl HC0.out HQL.out HB9.out ?_; intro v9 w9 hQ9 hb9; rw [HAL.out] at hQ9; obtain ⟨A9, q9, rfl⟩ := hQ9.form; have HS9 : Hid (SeeR w N (setB back2 j x) (Q2 ++ [j]) _ w9) := HSM.out.later hQ9 (HA9.out.trans hb9); clear hQ9 hb9)
                    go_roundw
                    case rel => exact ⟨j + 1, hlt, by go_num, _, _, HS9, HMT, HMN.out⟩
                    case measure => simp [intOf]; omega
                  · have HMT : Hid (BfsM N c (N - 2) back2 Q2 x (j + 1)) := HMY.out.skip (.inl (by omega))
                    clear HMY
                    go_wp2_with fail
                    go_roundw
                    case rel => exact ⟨j + 1, hlt, by go_num, _, _, HSY, HMT, HMZ.out⟩
                    case measure => simp [intOf]; omega
                · have HMT : Hid (BfsM N c (N - 2) back2 Q2 x (j + 1)) := HMY.out.skip (.inr (by omega))
                  clear HMY
                  go_wp2_with fail
                  go_roundw
                  case rel => exact ⟨j + 1, hlt, by go_num, _, _, HSY, HMT, HMZ.out⟩
                  case measure => simp [intOf]; omega
              · obtain rfl : N = j := by omega
                have HFN : Hid (Bfs N c (N - 2) back2 Q2) := HMY.out.finish
                go_wp2_with fail
                go_roundw
                case rel => exact ⟨_, _, HSY, HFN⟩
                case measure =>
                  have h1 := muR_of HSY.out.own
                  have h2 := HMW.out
                  have h3 := HMZ.out
                  simp only [lenQ]
                  omega
          · have HS1 : Hid (SeeR w N back Q (.slice (some ⟨gq, oq + 1, none⟩) Q.length (cap - 1)) wq) := ⟨HSS.out.1, HQ2'.out, HSS.out.2⟩
            clear HQ1' HQ2' HSS
            go_wp2_with fail
            go_loopw [8, 6] (fun vj vq wy => ∃ j : Nat, j ≤ N ∧ vj = .int .i64 j ∧ ∃ back2 Q2, Hid (SeeR w N back2 Q2 vq wy) ∧ Hid (BfsM N c (N - 2) back2 Q2 x j) ∧ 2 * (N - cntN back2 N) + Q2.length ≤ 2 * (N - cntN back N) + Q.length) (fun vj _ _ => N - (intOf vj).toNat)
            case atStart => exact ⟨0, by omega, rfl, back, Q, HS1, HM0, Nat.le_refl _⟩
            case round =>
              clear HS1 HM0 cx
              obtain ⟨j, hj, rfl, back2, Q2, HSY, HMY, hmu⟩ := hrel
              rename World => wy
              obtain ⟨A2, cap2, hv2⟩ := HSY.out.que.form
              have hlq2 : (allQ Q2).length = Q2.length := by simp [allQ]
              rw [hlq2] at hv2
              subst hv2
              clear hlq2
              have HMZ := Lib.hid hmu
              clear hmu
              by_cases hlt : j < N
              · have hRT := HT.out wy HSY.out.bel
                have ca := hRT.out.cell hxN
                have cb := (hRT.row x hxN).cell hlt
                have cj := HSY.out.own.cell hlt
                have fj := HSY.out.own.frozen j
                have hjw : w.heap.size < wy.heap.size := HSY.out.own.lt
                clear hRT
                by_cases hbj : back2 j < 0
                · by_cases hcx : 0 < c x j
                  · have HMT : Hid (BfsM N c (N - 2) (setB back2 j x) (Q2 ++ [j]) x (j + 1)) := HMY.out.take hlt hcx hbj
                    have HSM := Lib.hid (HSY.out.mark j x)
                    have hcs := cntN_set (v := (x : Int)) hbj (by omega) hlt
                    have hcl := cntN_le (setB back2 j x) N
                    have HQL : Hid ((allQ Q2).length ≤ 1000000) := by have h1 := HMY.out.ok.len; have h2 := cntN_le back2 N; show _ ≤ _; simp [allQ]; omega
                    have HMN : Hid (2 * (N - cntN (setB back2 j x) N) + (Q2 ++ [j]).length ≤ 2 * (N - cntN back N) + Q.length) := by
                      have := HMZ.out
                      rw [hcs] at hcl
                      rw [List.length_append, List.length_cons, List.length_nil, hcs]
                      show _ ≤ _
                      omega
                    have hxs : ((wy.setCell ⟨w.heap.size, j, none⟩ (.int .i64 x))).heap.size = wy.heap.size := by simp
                    have HC0 : Hid (((wy.setCell ⟨w.heap.size, j, none⟩ (.int .i64 x)).alloc (.cells #[.int .i64 j] 3)).cell? ⟨wy.heap.size, 0, none⟩ = some (.int .i64 j)) := by
                      have h1 := newcell (wy.setCell ⟨w.heap.size, j, none⟩ (.int .i64 x)) #[.int .i64 j] 3 0
                      rw [hxs] at h1
                      exact h1
                    have HQ9 : Hid (QueA ((wy.setCell ⟨w.heap.size, j, none⟩ (.int .i64 x)).alloc (.cells #[.int .i64 j] 3)) (w.heap.size + 1) (.slice A2 Q2.length cap2) (allQ Q2)) := HSM.out.que.keep fun b _ hb => Below.heap_alloc _ _ _ hb
                    have HB9 : Hid (w.heap.size + 1 ≤ ((wy.setCell ⟨w.heap.size, j, none⟩ (.int .i64 x)).alloc (.cells #[.int .i64 j] 3)).heap.size) := by show _ ≤ _; simp; omega
                    have HA9 : Hid (Below (w.heap.size + 1) (wy.setCell ⟨w.heap.size, j, none⟩ (.int .i64 x)) ((wy.setCell ⟨w.heap.size, j, none⟩ (.int .i64 x)).alloc (.cells #[.int .i64 j] 3))) := (Below.refl _ _).alloc (by rw [hxs]; omega) _
                    have HAL : Hid (allQ Q2 ++ [(j : Int)] = allQ (Q2 ++ [j])) := by show _ = _; simp [allQ]
                    clear hcs hcl HMY HSY hxs
                    go_wp2_with (at_builtin; refine app_que _ rfl _ _ rfl (w.heap.size + 1) _ (allQ Q2) rfl HQ9.out wy.heap.size j rfl HC0.out HQL.out HB9.out ?_; intro v9 w9 hQ9 hb9; rw [HAL.out] at hQ9; obtain ⟨A9, q9, rfl⟩ := hQ9.form; have HS9 : Hid (SeeR w N (setB back2 j x) (Q2 ++ [j]) _ w9) := HSM.out.later hQ9 (HA9.out.trans hb9); clear hQ9 hb9)
                    go_roundw
                    case rel => exact ⟨j + 1, hlt, by go_num, _, _, HS9, HMT, HMN.out⟩
                    case measure => simp [intOf]; omega
                  · have HMT : Hid (BfsM N c (N - 2) back2 Q2 x (j + 1)) := HMY.out.skip (.inl (by omega))
                    clear HMY
                    go_wp2_with fail
                    go_roundw
                    case rel => exact ⟨j + 1, hlt, by go_num, _, _, HSY, HMT, HMZ.out⟩
                    case measure => simp [intOf]; omega
                · have HMT : Hid (BfsM N c (N - 2) back2 Q2 x (j + 1)) := HMY.out.skip (.inr (by omega))
                  clear HMY
                  go_wp2_with fail
                  go_roundw
                  case rel => exact ⟨j + 1, hlt, by go_num, _, _, HSY, HMT, HMZ.out⟩
                  case measure => simp [intOf]; omega
              · obtain rfl : N = j := by omega
                have HFN : Hid (Bfs N c (N - 2) back2 Q2) := HMY.out.finish
                go_wp2_with fail
                go_roundw
                case rel => exact ⟨_, _, HSY, HFN⟩
                case measure =>
                  have h1 := muR_of HSY.out.own
                  have h2 := HMW.out
                  have h3 := HMZ.out
                  simp only [lenQ]
                  omega
end Go.Proofs.Ytegclodchhcbaaa
