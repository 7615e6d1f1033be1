/- Walks: bus.Keeps. -/
import Derived.Test.YtlbbhlkbhegegaaPl8
import Derived.Test.YtlbbhlkbhegegaaPl9
namespace Go.Proofs.Ytlbbhlkbhegegaa
open Go.RowKit

theorem ret_bi {a b : Bool} {c : Int} (h : a = b) : Ending.returned (.tuple #[.bool a, .int .i64 c]) = .returned (.tuple #[.bool b, .int .i64 c]) := by rw [h]
theorem dueAt_zero (l : List MFrame) (os : List Int) (f : Int) : dueAt l os f 0 = os.getD f.toNat 0 := by unfold dueAt; simp
theorem dueAt_succ (l : List MFrame) (os : List Int) (f : Int) (n : Nat) : dueAt l os f (n + 1) = dueAt l os f n + (frAt l f).every := by
  unfold dueAt
  rw [show ((n + 1 : Nat) : Int) = (n : Int) + 1 by omega, Int.add_mul]
  omega
theorem dueAt_bd {l : List MFrame} {os : List Int} {f : Int} {n : Nat} {g : MFrame} (hf : l[f.toNat]? = some g) (he : 1 ≤ g.every ∧ g.every ≤ 100000) (ho : 0 ≤ os.getD f.toNat 0 ∧ os.getD f.toNat 0 ≤ 1000000) (hn : n ≤ 500) : 0 ≤ dueAt l os f n ∧ dueAt l os f n ≤ 51000000 := by
  unfold dueAt
  rw [frAt_of hf]
  have hp0 : 0 ≤ (n : Int) * g.every := Int.mul_nonneg (by omega) (by omega)
  have hp1 : (n : Int) * g.every ≤ 50000000 := by
    have := Int.mul_le_mul (show (n : Int) ≤ 500 by omega) he.2 (by omega) (by omega)
    omega
  omega
theorem lastTo_bd {l : List MFrame} {rs : List MGate} (h : relsB l.length rs = true) (f : Int) : ∀ k, k ≤ rs.length → 0 ≤ lastTo rs f k ∧ lastTo rs f k ≤ 1000000
  | 0, _ => by simp [lastTo]
  | k + 1, hk => by
    rw [lastTo]
    have ih := lastTo_bd h f k (by omega)
    have hk' : rs[k]? = some rs[k] := List.getElem?_eq_getElem (by omega)
    have h2 := relsB_at h hk'
    rw [relAt_of hk']
    split
    · exact h2.2
    · exact ih
theorem sameTo_hit {rs : List MGate} {f : Int} {k : Nat} (h : (relAt rs k).rate = f) : sameTo rs f (k + 1) = sameTo rs f k + 1 := by rw [sameTo, if_pos h]
theorem sameTo_miss {rs : List MGate} {f : Int} {k : Nat} (h : (relAt rs k).rate ≠ f) : sameTo rs f (k + 1) = sameTo rs f k := by rw [sameTo, if_neg h]; rfl
theorem keepOk_no0 {l : List MFrame} {rs : List MGate} {os : List Int} {k : Nat} {r : MGate} {f : MFrame} {d : Int} (hr : relAt rs k = r) (hf : frAt l r.rate = f) (hd : dueS l rs os k = d) (h : inB r.delay d (d + f.jitter) = false) : keepOk l rs os k = false := by
  unfold keepOk; rw [hr, hf, hd, h]; rfl
theorem keepOk_eq {l : List MFrame} {rs : List MGate} {os : List Int} {k : Nat} {r : MGate} {f : MFrame} {d t : Int} {x : Bool} (hr : relAt rs k = r) (hf : frAt l r.rate = f) (hd : dueS l rs os k = d) (h : inB r.delay d (d + f.jitter) = true) (ht : lastTo rs r.rate k = t) (h2 : decide (r.delay < t) = x) : keepOk l rs os k = !x := by
  unfold keepOk; rw [hr, hf, hd, h, ht, h2]; rfl

theorem relS_in (l : List MFrame) (rs : List MGate) : relS l rs = 0 ∨ relS l rs = 40 ∨ relS l rs = 2 ∨ relS l rs = 1 := by
  unfold relS
  by_cases h1 : framesB l = false
  · rw [if_pos h1]; omega
  · rw [if_neg h1]
    by_cases h2 : 500 < rs.length
    · rw [if_pos h2]; omega
    · rw [if_neg h2]
      by_cases h3 : relsB l.length rs = true
      · rw [if_pos h3]; omega
      · rw [if_neg h3]; omega
set_option maxRecDepth 100000 in
set_option maxHeartbeats 4000000 in
theorem keeps_any (A : Option Addr) (cap : Nat) (l : List MFrame) (G : Option Addr) (gcap : Nat) (rs : List MGate) (O : Option Addr) (ocap : Nat) (os : List Int) (w : World) (h : FramesA w w.heap.size A l) (hcap : l.length ≤ cap) (hG : GatesA w w.heap.size G rs) (hm : rs.length ≤ maxLen) (hO : IntsA w w.heap.size O os)
    {b : Bool} {c : Int} (hp : keepsS l rs os = (b, c)) :
    Calls Try.prog 39 #[.slice A l.length cap, .slice G rs.length gcap, .slice O os.length ocap] w fun e w' => e = .returned (.tuple #[.bool b, .int .i64 c]) ∧ Below w.heap.size w w' := by
  have hlen := h.1
  have holen := hO.1
  unfold maxLen at hlen hm holen
  by_cases hz : relS l rs = 0
  · have hC := crel_any A cap l G gcap rs w h hcap hG (by unfold maxLen; omega) hz
    have HC := Lib.hid hC
    clear hC
    have hparts := relS_parts hz
    have hl := (framesB_parts hparts.1).1
    by_cases hol : os.length = l.length
    · rcases hoff : os.all offB
      · rw [keepsS_arg hz (fun h => by rw [hoff] at h; cases h.2)] at hp
        injection hp with hp1 hp2
        subst hp1
        subst hp2
        have hne : ((os.length : Int) != (l.length : Int)) = false := by rw [hol]; simp
        have HCO : Hid (∀ w1, Below w.heap.size w w1 → Calls Try.prog 81 #[.slice O os.length ocap, .func (.func 82) #[] #[]] w1 fun e w' => e = .returned (.bool true) ∧ Below w1.heap.size w1 w') := fun w1 hb => containsOff_b O ocap os w1 ((hO.below hb (Nat.le_refl _)).more hb.size) hoff
        clear hz hoff hol hO
        go_enter Try.func39, Try.ntmps39
        go_wp2_with (first | (go_at_call 76; refine HC.out.mono ?_; rintro e w1 ⟨rfl, hb1⟩) | (go_at_call 81; refine (HCO.out _ hb1).mono ?_; rintro e w2 ⟨rfl, hb2⟩))
        go_ret2
        exact ⟨rfl, hb1.trans (hb2.mono hb1.size)⟩
      · rw [keepsS_ok hz hol hoff] at hp
        injection hp with hp1 hp2
        subst hp2
        have HP := Lib.hid hp1
        clear hp1
        have hne : ((os.length : Int) != (l.length : Int)) = false := by rw [hol]; simp
        have HCO : Hid (∀ w1, Below w.heap.size w w1 → Calls Try.prog 81 #[.slice O os.length ocap, .func (.func 82) #[] #[]] w1 fun e w' => e = .returned (.bool false) ∧ Below w1.heap.size w1 w') := fun w1 hb => containsOff_b O ocap os w1 ((hO.below hb (Nat.le_refl _)).more hb.size) hoff
        have HCL : Hid (∀ w1, Below w.heap.size w w1 → Calls Try.prog 83 #[.slice O os.length ocap] w1 fun e w' => ∃ v, e = .returned v ∧ OutI w' w1.heap.size v os ∧ Below w1.heap.size w1 w') := fun w1 hb => clone_ints O ocap os w1 ((hO.below hb (Nat.le_refl _)).more hb.size) (by omega)
        have HF := Lib.hid (framesF hparts.1)
        have hr5 := hparts.2.1
        have HR := Lib.hid (fun k r (hk : rs[k]? = some r) => relsB_at hparts.2.2 hk)
        have HLB := Lib.hid (fun f k (hk : k ≤ rs.length) => lastTo_bd hparts.2.2 f k hk)
        have HOF := Lib.hid (fun k (hk : k < os.length) => offs_at hoff hk)
        have HOL := Lib.hid hol
        clear hz hoff hol hO hparts
        go_enter Try.func39, Try.ntmps39
        go_wp2_with (first | (go_at_call 76; refine HC.out.mono ?_; rintro e w1 ⟨rfl, hb1⟩) | (go_at_call 81; refine (HCO.out _ hb1).mono ?_; rintro e w2 ⟨rfl, hb2⟩) | (go_at_call 83; refine (HCL.out _ (hb1.trans (hb2.mono hb1.size))).mono ?_; rintro e w3 ⟨v9, rfl, hV, hb3⟩) | (at_make; refine mk_ints _ rfl _ _ rfl l.length rfl rfl (by omega) ?_; intro w4 hM hb4))
        obtain ⟨V9, cap9, rfl, hcap9, _⟩ := hV.lenV
        by_cases h0 : rs.length = 0
        · have HH0 := Lib.hid h0
          have hb5 := ((hb1.trans (hb2.mono hb1.size)).trans (hb3.mono (by have := hb1.size; have := hb2.size; omega))).trans (hb4.mono (by have := hb1.size; have := hb2.size; have := hb3.size; omega))
          clear h0 hV hM hb1 hb2 hb3 hb4
          go_loopw [36] (fun vi wr => vi = .int .i64 0 ∧ Below w.heap.size w wr) (fun _ _ => 0)
          case atStart => exact ⟨rfl, hb5⟩
          case round =>
            obtain ⟨rfl, hbw⟩ := hrel
            have hnl : ¬ (0 < rs.length) := by have := HH0.out; omega
            have hnd : decide (0 < rs.length) = false := decide_eq_false hnl
            go_wp2_with fail
            go_ret2
            exact ⟨ret_bi (by rw [← HP.out, keepsB_yes fun k hk => by have := HH0.out; omega]), hbw⟩
        · have hos0 : 0 < os.length := by
            have hk' : rs[0]? = some rs[0] := List.getElem?_eq_getElem (by omega)
            have := (HR.out 0 _ hk').1
            rw [HOL.out]
            omega
          obtain ⟨gd, rfl, hgd, hDU⟩ := hV.ownF hos0
          have hb5 := ((hb1.trans (hb2.mono hb1.size)).trans (hb3.mono (by have := hb1.size; have := hb2.size; omega))).trans (hb4.mono (by have := hb1.size; have := hb2.size; have := hb3.size; omega))
          have hgdl := hDU.lt
          have hgd0 : w.heap.size ≤ gd := by have := hb1.size; have := hb2.size; omega
          have hgl0 : w.heap.size ≤ w3.heap.size := by have := hb1.size; have := hb2.size; omega
          have hne9 : gd ≠ w3.heap.size := by omega
          have hDU4 := hDU.below hb4 hgdl
          generalize w3.heap.size = gl at *
          clear h0 hV hDU hb1 hb2 hb3 hb4 hgd
          go_loopw [36] (fun vi wr => ∃ k : Nat, k ≤ rs.length ∧ vi = .int .i64 k ∧ OwnF wr gd 3 l.length (fun f => .int .i64 (dueAt l os f (sameTo rs f k))) ∧ OwnF wr gl 3 l.length (fun f => .int .i64 (lastTo rs f k)) ∧ Hid (∀ j, j < k → keepOk l rs os j = true) ∧ Below w.heap.size w wr) (fun vi _ => rs.length - (intOf vi).toNat)
          case atStart =>
            rw [HOL.out] at hDU4
            exact ⟨0, Nat.zero_le _, rfl, hDU4.congr fun j _ => by rw [sameTo, dueAt_zero]; rfl, hM, fun j hj => by omega, hb5⟩
          case round =>
            clear hM hb5 hDU4
            obtain ⟨k, hk, rfl, hD, hL, HI, hbw⟩ := hrel
            by_cases hlt : k < rs.length
            · obtain ⟨r, rb, ro, hr, rfl, hrb, c0, c1⟩ := GatesA.at_ (SlA.below hG hbw (Nat.le_refl _)) hlt
              have hrr := (HR.out k r hr).1
              have hrd := (HR.out k r hr).2
              have hro : r.rate < (os.length : Int) := by have := HOL.out; omega
              have HRK := Lib.hid (relAt_of hr)
              clear hr
              obtain ⟨f, fb, fo, hf, rfl, hfb, _, f1, f2, _, _⟩ := (h.keep hbw).at_ (k := r.rate.toNat) (by omega)
              have hfo := HF.out _ f hf
              have hfe := hfo.2.1
              have hfj := hfo.2.2.2.1
              have hoo := HOF.out r.rate.toNat (by have := HOL.out; omega)
              have hsk := sameTo_le (rs := rs) (f := r.rate) k
              have hdb := dueAt_bd (n := sameTo rs r.rate k) hf hfe hoo (by omega)
              have hlb := HLB.out r.rate k hk
              have HFA := Lib.hid (frAt_of hf)
              have HDS : Hid (dueS l rs os k = dueAt l os r.rate (sameTo rs r.rate k)) := by show _ = _; unfold dueS; rw [HRK.out]
              have hrt : ((r.rate.toNat : Nat) : Int) = r.rate := by omega
              have HRT := Lib.hid hrt
              have d0 := hD.cell (j := r.rate.toNat) (by omega)
              have l0 := hL.cell (j := r.rate.toNat) (by omega)
              have df := hD.frozen r.rate.toNat
              have lf := hL.frozen r.rate.toNat
              rw [hrt] at d0 l0
              have HDN : Hid (∀ j, j < l.length → (if j = r.rate.toNat then Value.int .i64 (dueAt l os r.rate (sameTo rs r.rate k) + f.every) else .int .i64 (dueAt l os (j : Int) (sameTo rs (j : Int) k))) = .int .i64 (dueAt l os (j : Int) (sameTo rs (j : Int) (k + 1)))) := fun j hj => by
                by_cases e : j = r.rate.toNat
                · subst e
                  rw [if_pos rfl, hrt, sameTo_hit (by rw [HRK.out]), dueAt_succ, HFA.out]
                · rw [if_neg e, sameTo_miss (by rw [HRK.out]; omega)]
              have HLN : Hid (∀ j, j < l.length → (if j = r.rate.toNat then Value.int .i64 r.delay else .int .i64 (lastTo rs (j : Int) k)) = .int .i64 (lastTo rs (j : Int) (k + 1))) := fun j hj => by
                by_cases e : j = r.rate.toNat
                · subst e
                  rw [if_pos rfl, hrt, lastTo, HRK.out, if_pos rfl]
                · rw [if_neg e, lastTo, HRK.out, if_neg (by omega)]
              clear hf hfo hoo hsk hrt
              rcases hx0 : inB r.delay (dueAt l os r.rate (sameTo rs r.rate k)) (dueAt l os r.rate (sameTo rs r.rate k) + f.jitter)
              · have HNO := Lib.hid (keepOk_no0 HRK.out HFA.out HDS.out hx0)
                have X0 := Lib.hid hx0
                clear hx0 HDS
                clear HDN HLN
                go_wp2_with fail
                have hb1 : Below w.heap.size w (wr.alloc (.cells #[.int .i64 r.rate, .int .i64 r.delay] 63)) := hbw.alloc (by have := hbw.size; omega) _
                have n0 := newcell wr #[.int .i64 r.rate, .int .i64 r.delay] 63 0
                have n1 := newcell wr #[.int .i64 r.rate, .int .i64 r.delay] 63 1
                simp only [List.getElem?_toArray, List.getElem?_cons_succ, List.getElem?_cons_zero] at n0 n1
                have d1 := (hD.alloc (.cells #[.int .i64 r.rate, .int .i64 r.delay] 63)).cell (j := r.rate.toNat) (by omega)
                rw [HRT.out] at d1
                have g2 := (bcell hb1 fb (fo + r.rate.toNat * 5 + 2) hfb).trans ((bcell hbw fb (fo + r.rate.toNat * 5 + 2) hfb).symm.trans f2)
                generalize dueAt l os r.rate (sameTo rs r.rate k) = d at *
                have e1 : IntKind.i64.wrap (d + f.jitter) = d + f.jitter := IntWalk.i64_in _ (by omega)
                clear d0 l0 hD hL c0 c1 f1 f2
                go_quiet ((go_at_call 67; exact quiet_w (within_b _ _ _ _ _ X0.out)))
                go_wp2_with fail
                go_ret2
                exact ⟨ret_bi (by rw [← HP.out, keepsB_no hlt HNO.out]), bdrw hb1 _⟩
              · obtain ⟨x1, hx1⟩ : ∃ x1, decide (r.delay < lastTo rs r.rate k) = x1 := ⟨_, rfl⟩
                have HKE := Lib.hid (keepOk_eq HRK.out HFA.out HDS.out hx0 rfl hx1)
                have X0 := Lib.hid hx0
                clear hx0 HDS
                go_wp2_with fail
                have hb1 : Below w.heap.size w (wr.alloc (.cells #[.int .i64 r.rate, .int .i64 r.delay] 63)) := hbw.alloc (by have := hbw.size; omega) _
                have n0 := newcell wr #[.int .i64 r.rate, .int .i64 r.delay] 63 0
                have n1 := newcell wr #[.int .i64 r.rate, .int .i64 r.delay] 63 1
                simp only [List.getElem?_toArray, List.getElem?_cons_succ, List.getElem?_cons_zero] at n0 n1
                have hD1 := hD.alloc (.cells #[.int .i64 r.rate, .int .i64 r.delay] 63)
                have hL1 := hL.alloc (.cells #[.int .i64 r.rate, .int .i64 r.delay] 63)
                have hwr : wr.heap.size < (wr.alloc (.cells #[.int .i64 r.rate, .int .i64 r.delay] 63)).heap.size := by simp
                have hgw : gd < wr.heap.size := hD.lt
                have hgw2 : gl < wr.heap.size := hL.lt
                have d1 := hD1.cell (j := r.rate.toNat) (by omega)
                have l1 := hL1.cell (j := r.rate.toNat) (by omega)
                rw [HRT.out] at d1 l1
                have g1 := (bcell hb1 fb (fo + r.rate.toNat * 5 + 1) hfb).trans ((bcell hbw fb (fo + r.rate.toNat * 5 + 1) hfb).symm.trans f1)
                have g2 := (bcell hb1 fb (fo + r.rate.toNat * 5 + 2) hfb).trans ((bcell hbw fb (fo + r.rate.toNat * 5 + 2) hfb).symm.trans f2)
                generalize hW1 : wr.alloc (.cells #[.int .i64 r.rate, .int .i64 r.delay] 63) = W1 at *
                generalize wr.heap.size = rp at *
                clear d0 l0 hD hL c0 c1 f1 f2 hW1 hbw df lf
                generalize dueAt l os r.rate (sameTo rs r.rate k) = d at *
                generalize lastTo rs r.rate k = t at *
                have e1 : IntKind.i64.wrap (d + f.jitter) = d + f.jitter := IntWalk.i64_in _ (by omega)
                rcases x1 with _ | _
                · go_quiet ((go_at_call 67; exact quiet_w (within_b _ _ _ _ _ X0.out)))
                  have hb2 := bdrw hb1 nq
                  have hD2 : OwnF (W1.drewN nq) gd 3 l.length _ := hD1
                  have hL2 : OwnF (W1.drewN nq) gl 3 l.length _ := hL1
                  have hrp : rp < (W1.drewN nq).heap.size := hwr
                  have nn0 : (W1.drewN nq).cell? ⟨rp, 0, none⟩ = _ := n0
                  have nn1 : (W1.drewN nq).cell? ⟨rp, 1, none⟩ = _ := n1
                  have dd1 : (W1.drewN nq).cell? ⟨gd, r.rate.toNat, none⟩ = _ := d1
                  have gg1 : (W1.drewN nq).cell? ⟨fb, fo + r.rate.toNat * 5 + 1, none⟩ = _ := g1
                  generalize W1.drewN nq = W2 at *
                  clear n0 n1 d1 l1 g1 g2 hb1 hD1 hL1 hwr e1
                  have df := hD2.frozen r.rate.toNat
                  go_wp2_with fail
                  have e2 : IntKind.i64.wrap (d + f.every) = d + f.every := IntWalk.i64_in _ (by omega)
                  refine wp_region_quiet_tail 10 (by kernel_rfl) (by kernel_rfl) ?_
                  simp only [List.take_succ_cons, List.take_zero, List.drop_succ_cons, List.drop_zero]
                  repeat (go_big_quiet_step (fail))
                  refine wpQuiet_nil ?_
                  clear e2
                  have hD3 : OwnF (W2.setCell ⟨gd, r.rate.toNat, none⟩ (.int .i64 (d + f.every))).drew gd 3 l.length _ := (hD2.set r.rate.toNat (.int .i64 (d + f.every))).congr HDN.out
                  have hL3 : OwnF (W2.setCell ⟨gd, r.rate.toNat, none⟩ (.int .i64 (d + f.every))).drew gl 3 l.length _ := hL2.far (p := ⟨gd, r.rate.toNat, none⟩) (fun e => hne9 e.symm) _
                  have hb3 : Below w.heap.size w (W2.setCell ⟨gd, r.rate.toNat, none⟩ (.int .i64 (d + f.every))).drew := (hb2.setCell (p := ⟨gd, r.rate.toNat, none⟩) hgd0 _).drew
                  have m1 : (W2.setCell ⟨gd, r.rate.toNat, none⟩ (.int .i64 (d + f.every))).drew.cell? ⟨rp, 1, none⟩ = some (.int .i64 r.delay) := (cell_far' (by omega)).trans nn1
                  clear hD2 hL2 hb2 nn0 nn1 gg1
                  have l3 := hL3.cell (j := r.rate.toNat) (by omega)
                  have lf := hL3.frozen r.rate.toNat
                  go_wp2_with fail
                  go_roundw
                  case rel =>
                    exact ⟨k + 1, by omega, by go_num, hD3.far (p := ⟨gl, r.rate.toNat, none⟩) hne9 _, (hL3.set r.rate.toNat (.int .i64 r.delay)).congr HLN.out, nat_snoc HI.out (by rw [HKE.out]; rfl), hb3.setCell (p := ⟨gl, r.rate.toNat, none⟩) hgl0 _⟩
                  case measure => simp [intOf]; omega
                · go_quiet ((go_at_call 67; exact quiet_w (within_b _ _ _ _ _ X0.out)))
                  go_wp2_with fail
                  go_ret2
                  exact ⟨ret_bi (by rw [← HP.out, keepsB_no hlt HKE.out]), bdrw hb1 _⟩
            · obtain rfl : k = rs.length := by omega
              go_wp2_with fail
              go_ret2
              exact ⟨ret_bi (by rw [← HP.out, keepsB_yes fun k hk => HI.out k hk]), hbw⟩
    · rw [keepsS_arg hz (fun h => hol h.1)] at hp
      injection hp with hp1 hp2
      subst hp1
      subst hp2
      have hne : ((os.length : Int) != (l.length : Int)) = true := by rw [bne_iff_ne]; omega
      clear hz hol hO
      go_enter Try.func39, Try.ntmps39
      go_wp2_with (go_at_call 76; refine HC.out.mono ?_; rintro e w1 ⟨rfl, hb1⟩)
      go_ret2
      exact ⟨rfl, hb1⟩
  · rw [keepsS_err hz] at hp
    injection hp with hp1 hp2
    subst hp1
    have hC := crel_any A cap l G gcap rs w h hcap hG (by unfold maxLen; omega) hp2
    have hcs := relS_in l rs
    rw [hp2] at hcs hz
    have hcs := hcs.resolve_left hz
    have HC := Lib.hid hC
    clear hC hp2 hz
    rcases hcs with rfl | rfl | rfl
    all_goals
      go_enter Try.func39, Try.ntmps39
      go_wp2_with (go_at_call 76; refine HC.out.mono ?_; rintro e w1 ⟨rfl, hb1⟩)
      go_ret2
      exact ⟨rfl, hb1⟩
end Go.Proofs.Ytlbbhlkbhegegaa
