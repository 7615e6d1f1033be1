/- Walks: ignitionref04.Rank. -/
import Derived.Test.YtlbbhlkbhegegaaRk3
namespace Go.Proofs.Ytlbbhlkbhegegaa
open Go.RowKit

theorem own_map' {w : World} {g n : Nat} {F : Nat → Int} (h : OwnF w g 3 n (fun j => .int .i64 (F j))) (hn : n ≤ 1000000) : IntsA w w.heap.size (some ⟨g, 0, none⟩) ((List.range n).map F) := by
  have hl : ((List.range n).map F).length = n := by simp
  refine OwnF.ints (T := 3) ?_ (by rw [hl]; unfold maxLen; omega)
  rw [hl]
  exact h.congr fun j hj => by simp [List.getD_eq_getElem?_getD, hj]
section
variable {ops : Array Oper} {rest : List Oper} {o : Oper} {a : Act} {Q : Exit → Act → World → Prop}
/-- append(nil, ints...) -/
theorem app_copy (w : World) (hg : o.guard = none) (s x : Operand) (ho : o.op = .call { callee := .builtin .append, args := #[s, x], argTypes := #[28, 28] }) (hs : a.eval s = .slice none 0 0)
    (b n cap : Nat) (F : Nat → Int) (hx : a.eval x = .slice (some ⟨b, 0, none⟩) n cap) (h : OwnF w b 3 n (fun k => .int .i64 (F k))) (h0 : 0 < n) (hlen : n ≤ 1000)
    (hK : ∀ g cap' w', OwnF w' g 3 n (fun k => .int .i64 (F k)) → w.heap.size ≤ g → n ≤ cap' → Below w.heap.size w w' → wpList Try.prog ops Q rest (a.put o.dst (.slice (some ⟨g, 0, none⟩) n cap')) w') : wpList Try.prog ops Q (o :: rest) a w := by
  obtain ⟨i0, hi, hz0, hz1, hz2⟩ := info_parts info_int
  have hnl : ((List.range n).map fun k => Value.int .i64 (F k)).length = n * 1 := by simp
  refine wpList_append_own w hg s x 28 ho w.heap.size 3 i0 (.int .i64 0) 1 8 under_ints hi hz0 hz1 hz2 rfl (by decide) _ 0 [] hs (World.ownsRow_nil w w.heap.size 3 1) ⟨b, 0, none⟩ n cap ((List.range n).map fun k => Value.int .i64 (F k)) hx hnl ?_ ?_ (by unfold maxLen; omega) (by omega) (Nat.le_refl _) (fun v' w' h1 h2 h3 => ?_)
  · intro j u hj
    have hjl : j < n := by
      rcases Nat.lt_or_ge j n with h1 | h1
      · exact h1
      · rw [List.getElem?_eq_none (by simpa using h1)] at hj; cases hj
    simp only [List.getElem?_map, List.getElem?_range hjl, Option.map_some, Option.some.injEq] at hj
    rw [← hj, add_none', Nat.zero_add]
    exact h.cell hjl
  · intro u hu
    obtain ⟨p, _, rfl⟩ := List.mem_map.1 hu
    rfl
  · rw [Nat.zero_add] at h1
    obtain ⟨hl', h1'⟩ := id h1
    rcases h1' with ⟨hv, _⟩ | ⟨g, cap', cur, hv, r⟩
    · have := (h3.1 hv).2
      omega
    · subst hv
      obtain ⟨hb1, hb2, ho1⟩ := ownF_of_row h1 h0
      rw [Nat.mul_one] at ho1
      refine hK g cap' w' (ho1.congr fun p hp => ?_) hb1 hb2 ((Below.refl _ _).grown h2 (Nat.le_refl _) (fun k hk => by cases hk))
      simp [List.getD_eq_getElem?_getD, hp]
end
def RInv (n r : Nat) (R : Nat → Int) : Prop := ∀ k, k < n → R k = -1 ∨ ((r : Int) ≤ R k ∧ R k ≤ 100)
theorem RInv.upd {n r i : Nat} {R : Nat → Int} (h : RInv n (r + 1) R) (hr : r ≤ 100) : RInv n r (updR R i r) := fun k hk => by
  unfold updR
  by_cases e : k = i
  · rw [if_pos e]; right; omega
  · rw [if_neg e]; have := h k hk; omega
/-- the reference looks at a frame as the program does -/
theorem late_trial {l : List MFrame} {R : Nat → Int} {r i : Nat} (hF : ∀ (k : Nat) (f : MFrame), l[k]? = some f → FOk f) (hil : i < l.length) (hR : RInv l.length (r + 1) R) : rlateB (rankedL l (updR R i r)) i = !okLow l R i := by
  have hi : l[i]? = some l[i] := List.getElem?_eq_getElem hil
  have hi' := rankedL_at (R := updR R i r) hi
  have hown : updR R i r i = r := by unfold updR; rw [if_pos rfl]
  have hd : ∀ (k : Nat) (f : MFrame), (rankedL l (updR R i r))[k]? = some f → k ≠ i → f.rank ≠ (rerank l[i] (updR R i r i)).rank := fun k f hf hk => by
    have hkl : k < l.length := by
      rcases Nat.lt_or_ge k l.length with h1 | h1
      · exact h1
      · rw [List.getElem?_eq_none (by rw [rankedL_len]; exact h1)] at hf; cases hf
    rw [rankedL_at (List.getElem?_eq_getElem hkl)] at hf
    injection hf with hf
    subst hf
    show updR R i r k ≠ updR R i r i
    rw [hown]
    unfold updR
    rw [if_neg hk]
    have := hR k hkl
    omega
  have hab : ∀ k, k < l.length → higherB (rankedL l (updR R i r)) (rerank l[i] (updR R i r i)).rank k = abR R i k := fun k hk => by
    rw [higherB_of (rankedL_at (List.getElem?_eq_getElem hk))]
    show decide (updR R i r k < updR R i r i) = abR R i k
    rw [hown]
    unfold updR abR
    by_cases e : k = i
    · rw [if_pos e, decide_eq_false (p := k ≠ i) (by simpa using e)]; simp
    · rw [if_neg e, decide_eq_true (p := k ≠ i) e, Bool.true_and]
      have := hR k hk
      exact decide_eq_decide.2 (by omega)
  have hZ := rrespZ_respS hi' (by rw [rankedL_len]; exact hil) hd
  rw [respS_ranked hil hab] at hZ
  rw [rlateB_of hi', hZ]
  have e : l.getD i ⟨0, 0, 0, 0, 0⟩ = l[i] := by rw [List.getD_eq_getElem?_getD, hi]; rfl
  unfold okLow
  rw [e]
  show (decide (_ < 0) || decide (l[i].due < _)) = _
  rcases ho : respS l (abR R i) i with _ | n
  · simp
  · have hn := respS_bd hi (hF i _ hi) ho
    show (decide (n < 0) || decide (l[i].due < n)) = !decide (n ≤ l[i].due)
    rw [decide_eq_false (by omega), Bool.false_or]
    by_cases h1 : n ≤ l[i].due
    · rw [decide_eq_true h1, decide_eq_false (by omega)]; rfl
    · rw [decide_eq_false h1, decide_eq_true (by omega)]; rfl
def Found (l : List MFrame) (R : Nat → Int) (r : Nat) (b : Bool) (j : Nat) (R' : Nat → Int) : Prop :=
  (b = true ∧ ∃ i, nextLow l R = some i ∧ R' = updR R i r) ∨ (b = false ∧ R' = R ∧ ∀ q, q < j → lowB l R q = false)

set_option maxRecDepth 100000 in
set_option maxHeartbeats 2000000 in
theorem rRank_any (A : Option Addr) (cap : Nat) (l : List MFrame) (w : World) (h : FramesA w w.heap.size A l) {x : List Int} {c : Int} (hp : rankOut l = (x, c)) :
    Calls Try.prog 32 #[.slice A l.length cap] w (RetLE w x c) := by
  have hC := rfcheck_any A cap l w h
  rcases hv : framesB l
  · unfold rankOut at hp
    rw [if_pos hv] at hp
    injection hp with h1 h2
    subst h1
    subst h2
    rw [fcheck_no hv] at hC
    have HC := Lib.hid hC
    clear hC hv
    go_enter Try.func32, Try.ntmps32
    go_wp2_with (go_at_call 23; refine HC.out.mono ?_; rintro e w1 ⟨rfl, hb1⟩)
    go_ret2
    exact RetLE.err rfl rfl hb1
  · have HF := Lib.hid (framesF hv)
    have hl := (framesB_parts hv).1
    have HP : Hid ((x, c) = match rankGo l l.length (fun _ => -1) with | none => ([], 42) | some R => ((List.range l.length).map R, 0)) := by
      show _ = _
      rw [← hp]
      unfold rankOut
      rw [if_neg (by rw [hv]; simp)]
      rfl
    rw [fcheck_yes hv] at hC
    have HC := Lib.hid hC
    clear hC hv hp
    go_enter Try.func32, Try.ntmps32
    go_wp2_with (first | (go_at_call 23; refine HC.out.mono ?_; rintro e w1 ⟨rfl, hb1⟩) | (at_make; refine mk_ints _ rfl _ _ rfl l.length rfl rfl (by omega) ?_; intro w2 hG hb2))
    have hbw2 := hb1.trans (hb2.mono hb1.size)
    have hgw := hb1.size
    clear hb2 HC
    go_loopw [6] (fun v wr => ∃ k : Nat, k ≤ l.length ∧ v = .int .i64 k ∧ OwnF wr w1.heap.size 3 l.length (fun j => .int .i64 (if j < k then -1 else 0)) ∧ Below w.heap.size w wr) (fun v _ => l.length - (intOf v).toNat)
    case atStart => exact ⟨0, Nat.zero_le _, rfl, hG.congr (fun j _ => by simp), hbw2⟩
    case round =>
      clear hG hbw2
      obtain ⟨k, hk, rfl, hG, hbw⟩ := hrel
      by_cases hlt : k < l.length
      · have gf := hG.frozen k
        have gc := hG.cell hlt
        go_wp2_with fail
        go_roundw
        case rel =>
          refine ⟨k + 1, by omega, by go_num, (hG.set k (.int .i64 (-1))).congr fun j _ => ?_, hbw.setCell (p := ⟨w1.heap.size, k, none⟩) hgw _⟩
          by_cases h1 : j = k
          · rw [if_pos h1, if_pos (by omega)]
          · rw [if_neg h1]
            by_cases h2 : j < k
            · rw [if_pos h2, if_pos (by omega)]
            · rw [if_neg h2, if_neg (by omega)]
        case measure => simp [intOf]; omega
      · obtain rfl : k = l.length := by omega
        have hG0 : OwnF wr w1.heap.size 3 l.length (fun j => .int .i64 ((fun _ => -1 : Nat → Int) j)) := hG.congr fun j hj => by rw [if_pos hj]
        clear hG
        have hb1s := hb1.size
        clear hb1
        go_wp2_with fail
        generalize w1.heap.size = g at *
        obtain ⟨wa, rfl⟩ : ∃ wa : World, wa = wr := ⟨_, rfl⟩
        go_loopw [2, 3, 7] (fun v2 v3 v wr => v2 = .slice none 0 0 ∧ v3 = .int .i64 0 ∧ ∃ (r : Nat) (R : Nat → Int), r ≤ l.length ∧ v = .int .i64 ((r : Int) - 1) ∧ Hid (rankGo l r R = rankGo l l.length (fun _ => -1)) ∧ Hid (RInv l.length r R) ∧ OwnF wr g 3 l.length (fun k => .int .i64 (R k)) ∧ Below w.heap.size w wr) (fun _ _ v _ => (intOf v + 1).toNat)
        case atStart => exact ⟨rfl, rfl, l.length, fun _ => -1, Nat.le_refl _, rfl, rfl, fun k _ => Or.inl rfl, hG0, hbw⟩
        case round =>
          clear hG0 hbw
          obtain ⟨rfl, rfl, r, R, hr, rfl, HI, HINV, hG, hbw⟩ := hrel
          by_cases hr0 : 1 ≤ r
          · obtain ⟨r, rfl⟩ : ∃ r0, r = r0 + 1 := ⟨r - 1, by omega⟩
            have hrr : ((r + 1 : Nat) : Int) - 1 = (r : Int) := by omega
            rw [hrr]
            clear hrr hr0
            have hri : (0 : Int) ≤ (r : Int) := by omega
            go_wp2_with fail
            obtain ⟨wo, rfl⟩ : ∃ wo : World, wo = wr := ⟨_, rfl⟩
            go_loopw [8, 9] (fun f v wr => ∃ (b : Bool) (j : Nat) (R' : Nat → Int), j ≤ l.length ∧ f = .bool b ∧ v = .int .i64 j ∧ Hid (Found l R r b j R') ∧ OwnF wr g 3 l.length (fun k => .int .i64 (R' k)) ∧ Below w.heap.size w wr) (fun _ v _ => l.length - (intOf v).toNat)
            case atStart => exact ⟨false, 0, R, Nat.zero_le _, rfl, rfl, Or.inr ⟨rfl, rfl, fun q h => by omega⟩, hG, hbw⟩
            case round =>
              clear hG hbw
              obtain ⟨b, j, R', hj, rfl, rfl, HJ, hG, hbw⟩ := hrel
              rcases b with _ | _
              · have hx := HJ.out
                unfold Found at hx
                obtain ⟨hRR, hlow⟩ : R' = R ∧ ∀ q, q < j → lowB l R q = false := by
                  rcases hx with ⟨h1, _⟩ | ⟨_, h2⟩
                  · cases h1
                  · exact h2
                subst hRR
                have HLOW := Lib.hid hlow
                clear hx hlow HJ
                by_cases hlt : j < l.length
                · have gc := hG.cell hlt
                  by_cases hneg : 0 ≤ R' j
                  · have HX : Hid (lowB l R' j = false) := by show _ = _; unfold lowB; rw [decide_eq_false (by omega)]; rfl
                    go_wp2_with fail
                    go_roundw
                    case rel => exact ⟨false, j + 1, R', by omega, rfl, by go_num, Or.inr ⟨rfl, rfl, nat_snoc HLOW.out HX.out⟩, hG, hbw⟩
                    case measure => simp [intOf]; omega
                  · have HLT : Hid (rlateB (rankedL l (updR R' j r)) j = !okLow l R' j) := late_trial HF.out hlt HINV.out
                    have HLB : Hid (lowB l R' j = okLow l R' j) := by show _ = _; unfold lowB; rw [decide_eq_true (by omega)]; rfl
                    have hjn : R' j < 0 := by omega
                    have h0l : 0 < l.length := by omega
                    have HGT : Hid (∀ w3 gt, OwnF w3 gt 3 l.length (fun k => .int .i64 (R' k)) → OwnF (w3.setCell ⟨gt, j, none⟩ (.int .i64 r)) gt 3 l.length (fun k => .int .i64 (updR R' j r k))) := fun w3 gt h3 => (h3.set j (.int .i64 r)).congr fun k _ => by
                      unfold updR
                      by_cases hk : k = j
                      · rw [if_pos hk, if_pos hk]
                      · rw [if_neg hk, if_neg hk]
                    have HRK : Hid (∀ w3 gt cap3, Below w.heap.size w w3 → OwnF w3 gt 3 l.length (fun k => .int .i64 (updR R' j r k)) → Calls Try.prog 35 #[.slice A l.length cap, .slice (some ⟨gt, 0, none⟩) l.length cap3] w3 fun e w' => ∃ A' cap', e = .returned (.slice A' l.length cap') ∧ l.length ≤ cap' ∧ FramesA w' w'.heap.size A' (rankedL l (updR R' j r)) ∧ Below w3.heap.size w3 w') := fun w3 gt cap3 hb3 h3 => by
                      have h4 := own_map' h3 (by omega)
                      have h5 := ranked_any A cap l (some ⟨gt, 0, none⟩) cap3 ((List.range l.length).map (updR R' j r)) (updR R' j r) w3 ((h.keep hb3).more hb3.size) hl h4 (by simp) (fun k hk => by simp [List.getD_eq_getElem?_getD, hk])
                      rw [show ((List.range l.length).map (updR R' j r)).length = l.length by simp] at h5
                      exact h5
                    have HLA : Hid (∀ (z : Bool) w4 A' cap', okLow l R' j = z → FramesA w4 w4.heap.size A' (rankedL l (updR R' j r)) → Calls Try.prog 69 #[.slice A' l.length cap', .int .i64 j] w4 fun e w' => e = .returned (.bool (!z)) ∧ Below w4.heap.size w4 w') := fun z w4 A' cap' hz h4 => by
                      have hok : ∀ (k : Nat) (f : MFrame), (rankedL l (updR R' j r))[k]? = some f → FOk f := rankedL_ok HF.out fun k hk => by
                        have := HINV.out.upd (i := j) (by omega) k hk
                        omega
                      have h5 := rlate_gen A' cap' (rankedL l (updR R' j r)) j w4 h4 hok (by rw [rankedL_len]; exact hl) (by rw [rankedL_len]; exact hlt) HLT.out
                      rw [rankedL_len, hz] at h5
                      exact h5
                    rcases hok : okLow l R' j
                    all_goals
                      have HOK := Lib.hid hok
                      clear hok
                      go_wp2_with (first
                        | (at_builtin; refine app_copy _ rfl _ _ rfl rfl g l.length l.length R' rfl hG h0l (by omega) ?_; intro gt cap3 w3 hT hgt hc3 hb3; have tf := hT.frozen j; have tc := hT.cell hlt)
                        | (go_at_call 35; refine (HRK.out _ gt cap3 ((hbw.trans (hb3.mono hbw.size)).setCell (p := ⟨gt, j, none⟩) (by have := hbw.size; show w.heap.size ≤ gt; omega) _) (HGT.out w3 gt hT)).mono ?_; rintro e w4 ⟨A', cap', rfl, _, hF4, hb4⟩)
                        | (go_at_call 69; refine (HLA.out _ w4 A' cap' HOK.out hF4).mono ?_; rintro e w5 ⟨rfl, hb5⟩; have hb35 : Below wr.heap.size wr w5 := ((hb3.setCell (p := ⟨gt, j, none⟩) hgt _).trans (hb4.mono (by have := hb3.size; simp; omega))).trans (hb5.mono (by have := hb3.size; have := hb4.size; simp at this; omega)); have hG5 := hG.below hb35 hG.lt; have g5f := hG5.frozen j; have g5c := hG5.cell hlt))
                    · go_roundw
                      case rel => exact ⟨false, j + 1, R', by omega, rfl, by go_num, Or.inr ⟨rfl, rfl, nat_snoc HLOW.out (by rw [HLB.out, HOK.out])⟩, hG5, hbw.trans (hb35.mono hbw.size)⟩
                      case measure => simp [intOf]; omega
                    · go_roundw
                      case rel => exact ⟨true, j + 1, updR R' j r, by omega, rfl, by go_num, Or.inl ⟨rfl, j, range_find_some hlt HLOW.out (by rw [HLB.out, HOK.out]), rfl⟩, HGT.out w5 g hG5, (hbw.trans (hb35.mono hbw.size)).setCell (p := ⟨g, j, none⟩) hgw _⟩
                      case measure => simp [intOf]; omega
                · have hje : j = l.length := (by omega)
                  subst hje
                  have HN : Hid (nextLow l R' = none) := range_find_none HLOW.out
                  go_wp2_with fail
                  go_ret2
                  have e1 : (x, c) = ([], 42) := by rw [HP.out, ← HI.out, rankGo_none HN.out]
                  injection e1 with e2 e3
                  subst e2
                  subst e3
                  exact RetLE.err rfl rfl hbw
              · have hx := HJ.out
                unfold Found at hx
                obtain ⟨i, hN, hRR⟩ : ∃ i, nextLow l R = some i ∧ R' = updR R i r := by
                  rcases hx with ⟨_, h2⟩ | ⟨h1, _⟩
                  · exact h2
                  · cases h1
                have HN := Lib.hid hN
                have HRR := Lib.hid hRR
                clear hx hN hRR HJ
                by_cases hlt : j < l.length
                all_goals
                  go_wp2_with fail
                  go_roundw
                  case rel => exact ⟨rfl, rfl, r, R', by omega, by go_num, by show _ = _; rw [HRR.out, ← HI.out, rankGo_some HN.out], by show RInv _ _ _; rw [HRR.out]; exact HINV.out.upd (by omega), hG, hbw⟩
                  case measure => simp [intOf]
          · obtain rfl : r = 0 := by omega
            have hneg : ((0 : Nat) : Int) - 1 < 0 := by omega
            go_wp2_with fail
            go_ret2
            have e1 : (x, c) = ((List.range l.length).map R, 0) := by rw [HP.out, ← HI.out, rankGo]
            injection e1 with e2 e3
            subst e2
            subst e3
            exact ⟨hbw, some ⟨g, 0, none⟩, l.length, by simp, by simp, own_map' hG (by omega)⟩
end Go.Proofs.Ytlbbhlkbhegegaa
