/- The plain law and the walk of ignitionlaw04.BusRanked. -/
import Derived.Test.YtlbbhlkbhegegaaW2
import Derived.Test.YtlbbhlkbhegegaaR12
import Derived.Test.YtlbbhlkbhegegaaRk4
import Derived.Test.YtlbbhlkbhegegaaAu
namespace Go.Proofs.Ytlbbhlkbhegegaa
open Go.RowKit

theorem ranked_inv {l : List MFrame} {R : Nat → Int} {k : Nat} {f : MFrame} (h : (rankedL l R)[k]? = some f) : ∃ g, l[k]? = some g ∧ f = rerank g (R k) := by
  have hkl : k < l.length := by
    rcases Nat.lt_or_ge k l.length with h1 | h1
    · exact h1
    · rw [List.getElem?_eq_none (by rw [rankedL_len]; exact h1)] at h; cases h
  have hk : l[k]? = some l[k] := List.getElem?_eq_getElem hkl
  rw [rankedL_at hk] at h
  injection h with h
  exact ⟨_, hk, h.symm⟩
theorem ranked_late {l : List MFrame} {R : Nat → Int} {i : Nat} (hF : ∀ (k : Nat) (f : MFrame), l[k]? = some f → FOk f) (hil : i < l.length) : lateB (rankedL l R) i = !okF l R i := by
  have hi : l[i]? = some l[i] := List.getElem?_eq_getElem hil
  have hi' := rankedL_at (R := R) hi
  have hab : ∀ k, k < l.length → higherB (rankedL l R) (rerank l[i] (R i)).rank k = highF R i k := fun k hk => by
    rw [higherB_of (rankedL_at (List.getElem?_eq_getElem hk))]
    rfl
  have hI : respI (rankedL l R) i = respS l (highF R i) i := by
    rw [respI_of hi', respS_ranked hil hab]
  have e : l.getD i ⟨0, 0, 0, 0, 0⟩ = l[i] := by rw [List.getD_eq_getElem?_getD, hi]; rfl
  rw [lateB_of hi']
  unfold respZ okF
  rw [hI, e]
  show (decide (_ < 0) || decide (l[i].due < _)) = _
  rcases ho : respS l (highF R i) i with _ | n
  · simp
  · have hn := respS_bd hi (hF i _ hi) ho
    show (decide (n < 0) || decide (l[i].due < n)) = !decide (n ≤ l[i].due)
    rw [decide_eq_false (by omega), Bool.false_or]
    by_cases h1 : n ≤ l[i].due
    · rw [decide_eq_true h1, decide_eq_false (by omega)]; rfl
    · rw [decide_eq_false h1, decide_eq_true (by omega)]; rfl
theorem ranked_frames {l : List MFrame} {R : Nat → Int} (hv : framesB l = true) (hR : ∀ k, k < l.length → 0 ≤ R k ∧ R k ≤ 1000) (hd : ∀ j k, j < l.length → k < l.length → j ≠ k → R j ≠ R k) : framesB (rankedL l R) = true := by
  have hp := framesB_parts hv
  refine framesB_yes (by rw [rankedL_len]; exact hp.1) fun k hk => ?_
  rw [rankedL_len] at hk
  have hi : l[k]? = some l[k] := List.getElem?_eq_getElem hk
  have hf := hp.2 k _ hi
  have hr := hR k hk
  rw [frameOk_of (rankedL_at hi), rankIn_take_miss (fun j f hj hf => ?_)]
  · unfold numsB
    simp only [Bool.and_eq_true, inB_iff', Bool.not_false, and_true]
    exact ⟨⟨⟨⟨hf.1, hf.2.1⟩, hf.2.2.1⟩, hf.2.2.2.1⟩, hr⟩
  · obtain ⟨g, _, rfl⟩ := ranked_inv hf
    exact hd j k (by omega) hk (by omega)
theorem lateTo_nil {l : List MFrame} : ∀ k, (∀ i, i < k → lateB l i = false) → lateTo l k = []
  | 0, _ => rfl
  | k + 1, h => by
    rw [lateTo_succ, lateTo_nil k (fun i hi => h i (by omega)), h k (by omega)]
    rfl
theorem lateTo_of_nil {l : List MFrame} : ∀ k, lateTo l k = [] → ∀ i, i < k → lateB l i = false
  | 0, _, i, hi => by omega
  | k + 1, h, i, hi => by
    rw [lateTo_succ, List.append_eq_nil_iff] at h
    by_cases e : i = k
    · subst e
      rcases hb : lateB l i
      · rfl
      · rw [hb] at h; exact absurd h.2 (by simp)
    · exact lateTo_of_nil k h.1 i (by omega)
theorem rank_bd {l : List MFrame} {Rf : Nat → Int} (hv : framesB l = true) (h : rankGo l l.length (fun _ => -1) = some Rf) : ∀ k, k < l.length → 0 ≤ Rf k ∧ Rf k ≤ 1000 := fun k hk => by
  have hl := (framesB_parts hv).1
  have := ((rankGo_spec l.length (fun _ => -1) Rf h (fun _ _ => Or.inl rfl) (cntU_all _) (by omega)).2.1 k hk (show (-1 : Int) < 0 by decide)).1
  omega
theorem rank_good {l : List MFrame} {Rf : Nat → Int} (hv : framesB l = true) (h : rankGo l l.length (fun _ => -1) = some Rf) : framesB (rankedL l Rf) = true ∧ lateL (rankedL l Rf) = [] := by
  have hl := (framesB_parts hv).1
  obtain ⟨_, h2, h3⟩ := rankGo_spec l.length (fun _ => -1) Rf h (fun _ _ => Or.inl rfl) (cntU_all _) (by omega)
  have hf := ranked_frames (R := Rf) hv (rank_bd hv h) (fun j k hj hk hne => h3 j k hj hk hne (show (-1 : Int) < 0 by decide) (show (-1 : Int) < 0 by decide))
  refine ⟨hf, ?_⟩
  unfold lateL
  rw [if_pos hf]
  refine lateTo_nil _ fun i hi => ?_
  rw [rankedL_len] at hi
  rw [ranked_late (framesF hv) hi, (h2 i hi (show (-1 : Int) < 0 by decide)).2]
  rfl
theorem rank_bad {l : List MFrame} {W : Nat → Int} (hv : framesB l = true) (h : rankGo l l.length (fun _ => -1) = none) (hf : framesB (rankedL l W) = true) : lateL (rankedL l W) ≠ [] := fun hn => by
  have hl := (framesB_parts hv).1
  unfold lateL at hn
  rw [if_pos hf, rankedL_len] at hn
  refine rankGo_ok (framesF hv) hl (W := W) (fun j k hj hk hne => ?_) (fun i hi => ?_) l.length _ (cntU_all _) (by omega) h
  · exact frames_rank hf (rankedL_at (List.getElem?_eq_getElem hj)) (rankedL_at (List.getElem?_eq_getElem hk)) hne
  · have h1 := lateTo_of_nil _ hn i hi
    rw [ranked_late (framesF hv) hi] at h1
    simpa using h1
/-- the ranks that the law tries -/
def tryR (os : List Int) (k : Nat) : Int := if k < os.length then (os.getD k 0).tmod 1000 % 1000 else k
theorem tryTo_succ (os : List Int) (k : Nat) : (List.range (k + 1)).map (tryR os) = (List.range k).map (tryR os) ++ [tryR os k] := by
  rw [List.range_succ, List.map_append]; rfl
theorem tryR_in {os : List Int} {k : Nat} (h : k < os.length) : tryR os k = (os.getD k 0).tmod 1000 % 1000 := by unfold tryR; rw [if_pos h]
theorem tryR_out {os : List Int} {k : Nat} (h : ¬ k < os.length) : tryR os k = k := by unfold tryR; rw [if_neg h]

set_option maxRecDepth 100000 in
set_option maxHeartbeats 2000000 in
theorem busRanked_any (A : Option Addr) (cap : Nat) (l : List MFrame) (O : Option Addr) (ocap : Nat) (os : List Int) (w : World) (h : FramesA w w.heap.size A l) (hcap : l.length ≤ cap) (hO : IntsA w w.heap.size O os) :
    Calls Try.prog 9 #[.slice A l.length cap, .slice O os.length ocap] w fun e w' => e = .returned (.bool true) ∧ Below w.heap.size w w' := by
  have HH := Lib.hid (heavy_any A cap l w h)
  have HC : Hid (∀ w1, Below w.heap.size w w1 → Calls Try.prog 23 #[.slice A l.length cap] w1 fun e w' => e = .returned (.int .i64 (fcheckS l)) ∧ Below w1.heap.size w1 w') := fun w1 hb => rfcheck_any A cap l w1 ((h.keep hb).more hb.size)
  have hlen := h.1
  unfold maxLen at hlen
  go_enter Try.func9, Try.ntmps9
  go_wp2_with fail
  refine HH.out.mono ?_
  rintro e w1 ⟨⟨r, rfl⟩, hb1⟩
  rcases r with _ | _
  · by_cases h8 : 8 < l.length
    · go_wp2_with fail
      refine (works_any w1).mono ?_
      rintro e w10 ⟨rfl, hb10⟩
      have hb11 := hb1.trans (hb10.mono hb1.size)
      clear hb1 hb10
      go_wp2_with fail
      go_ret
      exact ⟨rfl, hb11⟩
    · rcases hv : framesB l
      · rw [fcheck_no hv] at HC
        clear hv
        go_wp2_with fail
        refine (HC.out w1 hb1).mono ?_
        rintro e w2 ⟨rfl, hb2⟩
        have hb3 := hb1.trans (hb2.mono hb1.size)
        clear hb1 hb2
        go_wp2_with fail
        refine (works_any w2).mono ?_
        rintro e w10 ⟨rfl, hb10⟩
        have hb11 := hb3.trans (hb10.mono hb3.size)
        clear hb3 hb10
        go_wp2_with fail
        go_ret
        exact ⟨rfl, hb11⟩
      · rw [fcheck_yes hv] at HC
        rcases hG : rankGo l l.length (fun _ => -1) with _ | Rf
        · have hp : rankOut l = ([], 42) := by
            unfold rankOut
            rw [if_neg (by rw [hv]; simp), hG]
          have HR : Hid (∀ w1, Below w.heap.size w w1 → Calls Try.prog 31 #[.slice A l.length cap] w1 (RetLE w1 [] 42)) := fun w1 hb => rank_any A cap l w1 ((h.keep hb).more hb.size) hcap hp
          have HW : Hid (∀ k, k < 40 → 0 ≤ tryR os k ∧ tryR os k ≤ 1000) := fun k hk => by
            by_cases e : k < os.length
            · rw [tryR_in e]
              have ht1 : -(1000 : Int) < (os.getD k 0).tmod 1000 := Int.lt_tmod_of_pos _ (by omega)
              have ht3 : 0 ≤ (os.getD k 0).tmod 1000 % (1000 : Int) := Int.emod_nonneg _ (by omega)
              have ht4 : (os.getD k 0).tmod 1000 % (1000 : Int) < 1000 := Int.emod_lt_of_pos _ (by omega)
              omega
            · rw [tryR_out e]; omega
          have HK : Hid (∀ w1 X xk x, Below w.heap.size w w1 → IntsA w1 w1.heap.size X x → x = (List.range l.length).map (tryR os) → Calls Try.prog 35 #[.slice A l.length cap, .slice X x.length xk] w1 fun e w' => ∃ A' cap', e = .returned (.slice A' l.length cap') ∧ l.length ≤ cap' ∧ FramesA w' w'.heap.size A' (rankedL l (tryR os)) ∧ Below w1.heap.size w1 w') := fun w1 X xk x hb hX hx => by
            have hxl : x.length = l.length := by rw [hx, List.length_map, List.length_range]
            exact ranked_any A cap l X xk x (tryR os) w1 ((h.keep hb).more hb.size) (framesB_parts hv).1 hX (by omega) (fun k hk => by
              rw [hx, List.getD_eq_getElem?_getD, List.getElem?_map, List.getElem?_range hk]; rfl)
          have HL : Hid (∀ w1 A' cap', FramesA w1 w1.heap.size A' (rankedL l (tryR os)) → l.length ≤ cap' → Calls Try.prog 29 #[.slice A' l.length cap'] w1 (fun e w' => ∃ x c, (c = 40 ∨ c = 0 ∧ 0 < x.length) ∧ RetLE w1 x c e w')) := fun w1 A' cap' hf hc => by
            have := late_any A' cap' (rankedL l (tryR os)) w1 hf (by rw [rankedL_len]; exact hc)
            rw [rankedL_len] at this
            refine this.mono fun e w' hq => ⟨_, _, ?_, hq⟩
            rcases hvv : framesB (rankedL l (tryR os))
            · left; exact fcheck_no hvv
            · right
              have := rank_bad hv hG hvv
              exact ⟨fcheck_yes hvv, List.length_pos_iff.2 this⟩
          clear hp hG hv
          go_wp2_with fail
          refine (HC.out w1 hb1).mono ?_
          rintro e w2 ⟨rfl, hb2⟩
          have hb3 := hb1.trans (hb2.mono hb1.size)
          clear hb1 hb2 HC
          go_wp2_with fail
          refine (HR.out w2 hb3).mono ?_
          rintro e w4 ⟨hb4, X, xk, rfl, _, _⟩
          have hb5 := hb3.trans (hb4.mono hb3.size)
          clear hb3 hb4 HR
          go_wp2_with fail
          go_loopw [9, 10] (fun v i wr => ∃ k : Nat, k ≤ l.length ∧ i = .int .i64 k ∧ OutI wr w.heap.size v ((List.range k).map (tryR os)) ∧ Below w.heap.size w wr) (fun _ i _ => l.length - (intOf i).toNat)
          case atStart => exact ⟨0, Nat.zero_le _, rfl, OutI.nil _ _, hb5⟩
          case round =>
            clear hb5
            obtain ⟨k, hk, rfl, hOut, hbw⟩ := hrel
            have hLl : ((List.range k).map (tryR os)).length ≤ 40 := by rw [List.length_map, List.length_range]; omega
            have HSN := Lib.hid (tryTo_succ os k)
            generalize hL : (List.range k).map (tryR os) = L at *
            have HL2 := Lib.hid hL
            clear hL
            obtain ⟨Ab, cb, rfl, hcb, _⟩ := hOut.lenV
            have hsz := hbw.size
            by_cases hlt : k < l.length
            · by_cases hko : k < os.length
              · obtain ⟨gb, go, rfl, hgb, hgc⟩ := ((hO.below hbw (Nat.le_refl _)).at_ hko)
                have HT := Lib.hid (tryR_in hko)
                generalize os.getD k 0 = o at *
                have ht1 : -(1000 : Int) < o.tmod 1000 := Int.lt_tmod_of_pos _ (by omega)
                have ht2 : o.tmod 1000 < (1000 : Int) := Int.tmod_lt_of_pos _ (by omega)
                have ht3 : 0 ≤ o.tmod 1000 % (1000 : Int) := Int.emod_nonneg _ (by omega)
                have ht4 : o.tmod 1000 % (1000 : Int) < 1000 := Int.emod_lt_of_pos _ (by omega)
                have et0 : IntKind.i64.wrap (o.tmod 1000) = o.tmod 1000 := IntWalk.i64_in _ (by omega)
                have et1 : IntKind.i64.wrap (o.tmod 1000 + 1000) = o.tmod 1000 + 1000 := IntWalk.i64_in _ (by omega)
                have et2 : IntKind.i64.wrap (o.tmod 1000 % 1000) = o.tmod 1000 % 1000 := IntWalk.i64_in _ (by omega)
                have hO3 : OutI (wr.alloc (.cells #[.int .i64 (o.tmod 1000 % 1000)] 3)) w.heap.size _ _ := World.ownsRow.alloc hOut _
                go_wp2_with (at_builtin; refine app_int _ rfl _ _ rfl w.heap.size _ _ rfl hO3 wr.heap.size (o.tmod 1000 % 1000) rfl (newcell _ _ _ _) (by omega) (by simp; omega) ?_; intro v' w6 hO6 hg6)
                go_roundw
                case rel =>
                  refine ⟨k + 1, by omega, by go_num, by rw [HSN.out, HT.out]; exact hO6, ?_⟩
                  exact hbw.trans ((((Below.refl _ _).alloc (by omega) _)).grown hg6 (by simp; omega) (fun g hg => (own_block_lt hO3 g hg).1))
                case measure => simp [intOf]; omega
              · have HT := Lib.hid (tryR_out hko)
                have hO3 : OutI (wr.alloc (.cells #[.int .i64 (k : Int)] 3)) w.heap.size _ _ := World.ownsRow.alloc hOut _
                go_wp2_with (at_builtin; refine app_int _ rfl _ _ rfl w.heap.size _ _ rfl hO3 wr.heap.size (k : Int) rfl (newcell _ _ _ _) (by omega) (by simp; omega) ?_; intro v' w6 hO6 hg6)
                go_roundw
                case rel =>
                  refine ⟨k + 1, by omega, by go_num, by rw [HSN.out, HT.out]; exact hO6, ?_⟩
                  exact hbw.trans ((((Below.refl _ _).alloc (by omega) _)).grown hg6 (by simp; omega) (fun g hg => (own_block_lt hO3 g hg).1))
                case measure => simp [intOf]; omega
            · obtain rfl : k = l.length := by omega
              obtain ⟨X', xk', e', hxk', hX'⟩ := hOut.reads
              injection e' with e1 e2 e3
              subst e1
              subst e3
              have HK4 := Lib.hid (HK.out wr Ab cb L hbw hX' HL2.out.symm)
              clear HK hX' HSN HL2 hOut
              go_wp2_with fail
              refine HK4.out.mono ?_
              rintro e w6 ⟨A', cap', rfl, hc', hf', hb6⟩
              have HL6 := Lib.hid (HL.out w6 A' cap' hf' hc')
              have hb7 := hbw.trans (hb6.mono hsz)
              clear hbw hb6 hf' HL HK4
              go_wp2_with fail
              refine HL6.out.mono ?_
              rintro e w8 ⟨x, c, hor, hb8, Y, yk, rfl, _, _⟩
              have hb9 := hb7.trans (hb8.mono hb7.size)
              clear hb7 hb8 HL6
              rcases hor with rfl | ⟨rfl, hx0⟩
              all_goals
                go_wp2_with fail
                refine (works_any w8).mono ?_
                rintro e w10 ⟨rfl, hb10⟩
                have hb11 := hb9.trans (hb10.mono hb9.size)
                clear hb9 hb10
                go_wp2_with fail
                go_ret
                exact ⟨rfl, hb11⟩
        · have hp : rankOut l = ((List.range l.length).map Rf, 0) := by
            unfold rankOut
            rw [if_neg (by rw [hv]; simp), hG]
          have HR : Hid (∀ w1, Below w.heap.size w w1 → Calls Try.prog 31 #[.slice A l.length cap] w1 fun e w' => ∃ X xk x, e = .returned (.tuple #[.slice X l.length xk, .int .i64 0]) ∧ IntsA w' w'.heap.size X x ∧ (x.length = l.length ∧ ∀ k, k < l.length → x.getD k 0 = Rf k) ∧ Below w1.heap.size w1 w') := fun w1 hb => by
            refine (rank_any A cap l w1 ((h.keep hb).more hb.size) hcap hp).mono ?_
            rintro e w' ⟨hb', X, xk, rfl, _, hX⟩
            refine ⟨X, xk, _, ?_, hX, ⟨by simp, fun k hk => ?_⟩, hb'⟩
            · rw [List.length_map, List.length_range]
            · rw [List.getD_eq_getElem?_getD, List.getElem?_map, List.getElem?_range hk]; rfl
          have HK : Hid (∀ w1 X xk x, Below w.heap.size w w1 → IntsA w1 w1.heap.size X x → (x.length = l.length ∧ ∀ k, k < l.length → x.getD k 0 = Rf k) → Calls Try.prog 35 #[.slice A l.length cap, .slice X l.length xk] w1 fun e w' => ∃ A' cap', e = .returned (.slice A' l.length cap') ∧ l.length ≤ cap' ∧ FramesA w' w'.heap.size A' (rankedL l Rf) ∧ Below w1.heap.size w1 w') := fun w1 X xk x hb hX hx => by
            have := ranked_any A cap l X xk x Rf w1 ((h.keep hb).more hb.size) (framesB_parts hv).1 hX (by omega) hx.2
            rw [hx.1] at this
            exact this
          have hgood := rank_good hv hG
          have HL : Hid (∀ w1 A' cap', FramesA w1 w1.heap.size A' (rankedL l Rf) → l.length ≤ cap' → Calls Try.prog 29 #[.slice A' l.length cap'] w1 (RetLE w1 [] 0)) := fun w1 A' cap' hf hc => by
            have := late_any A' cap' (rankedL l Rf) w1 hf (by rw [rankedL_len]; exact hc)
            rw [hgood.2, fcheck_yes hgood.1, rankedL_len] at this
            exact this
          clear hgood hp hG hv
          go_wp2_with fail
          refine (HC.out w1 hb1).mono ?_
          rintro e w2 ⟨rfl, hb2⟩
          have hb3 := hb1.trans (hb2.mono hb1.size)
          clear hb1 hb2
          go_wp2_with fail
          refine (HR.out w2 hb3).mono ?_
          rintro e w4 ⟨X, xk, x, rfl, hX, hx, hb4⟩
          have HK4 := Lib.hid (HK.out w4 X xk x (hb3.trans (hb4.mono hb3.size)) hX hx)
          have hb5 := hb3.trans (hb4.mono hb3.size)
          clear hb3 hb4 hx hX HK
          go_wp2_with fail
          refine HK4.out.mono ?_
          rintro e w6 ⟨A', cap', rfl, hc', hf', hb6⟩
          have HL6 := Lib.hid (HL.out w6 A' cap' hf' hc')
          have hb7 := hb5.trans (hb6.mono hb5.size)
          clear hb5 hb6 hf' HL HK4
          go_wp2_with fail
          refine HL6.out.mono ?_
          rintro e w8 ⟨hb8, Y, yk, rfl, _, _⟩
          have hb9 := hb7.trans (hb8.mono hb7.size)
          clear hb7 hb8 HL6
          go_wp2_with fail
          refine (works_any w8).mono ?_
          rintro e w10 ⟨rfl, hb10⟩
          have hb11 := hb9.trans (hb10.mono hb9.size)
          clear hb9 hb10
          go_wp2_with fail
          go_ret
          exact ⟨rfl, hb11⟩
  · go_wp2_with fail
    refine (works_any w1).mono ?_
    rintro e w10 ⟨rfl, hb10⟩
    have hb11 := hb1.trans (hb10.mono hb1.size)
    clear hb1 hb10
    go_wp2_with fail
    go_ret
    exact ⟨rfl, hb11⟩
theorem busRanked_row (A : Option Addr) (cap : Nat) (l : List MFrame) (O : Option Addr) (ocap : Nat) (os : List Int) (w : World) (hcap : l.length ≤ cap) (_ : cap ≤ maxLen) (h : FramesA w w.heap.size A l)
    (_ : ∀ f ∈ l, (Lit.int .i64 f.size).wf = true ∧ (Lit.int .i64 f.every).wf = true ∧ (Lit.int .i64 f.jitter).wf = true ∧ (Lit.int .i64 f.due).wf = true ∧ (Lit.int .i64 f.rank).wf = true)
    (_ : os.length ≤ ocap) (_ : ocap ≤ maxLen) (hO : IntsA w w.heap.size O os) (_ : ∀ f ∈ os, (Lit.int .i64 f).wf = true) :
    Calls Try.prog 9 #[.slice A l.length cap, .slice O os.length ocap] w fun e w' => e = .returned (.bool true) ∧ Below w.heap.size w w' := busRanked_any A cap l O ocap os w h hcap hO
end Go.Proofs.Ytlbbhlkbhegegaa
