/- Walks: ignitionref04.Keeps. -/
import Derived.Test.YtlbbhlkbhegegaaKs1
namespace Go.Proofs.Ytlbbhlkbhegegaa
open Go.RowKit

theorem offs_yes {os : List Int} (h : ∀ j, j < os.length → offB (os.getD j 0) = true) : os.all offB = true := by
  rw [List.all_eq_true]
  intro x hx
  obtain ⟨j, hj, rfl⟩ := List.mem_iff_getElem.1 hx
  have := h j hj
  rw [List.getD_eq_getElem?_getD, List.getElem?_eq_getElem hj] at this
  exact this
theorem offs_no {os : List Int} {k : Nat} (hk : k < os.length) (h : offB (os.getD k 0) = false) : os.all offB = false := by
  rw [List.all_eq_false]
  refine ⟨os[k], List.getElem_mem _, ?_⟩
  rw [List.getD_eq_getElem?_getD, List.getElem?_eq_getElem hk] at h
  have h : offB os[k] = false := h
  rw [h]; simp
theorem keepOk_max {l : List MFrame} {rs : List MGate} {os : List Int} {k : Nat} {r : MGate} {f : MFrame} {d t : Int} {x : Bool} (hr : relAt rs k = r) (hf : frAt l r.rate = f) (hd : dueS l rs os k = d) (ht : lastTo rs r.rate k = t) (h : inB r.delay (max d t) (d + f.jitter) = x) : keepOk l rs os k = x := by
  unfold keepOk
  rw [hr, hf, hd, ht, ← h]
  unfold inB
  rw [Bool.eq_iff_iff]
  simp only [Bool.and_eq_true, Bool.not_eq_true', decide_eq_true_eq, decide_eq_false_iff_not]
  omega
set_option maxRecDepth 100000 in
set_option maxHeartbeats 4000000 in
theorem rkeeps_any (A : Option Addr) (cap : Nat) (l : List MFrame) (G : Option Addr) (gcap : Nat) (rs : List MGate) (O : Option Addr) (ocap : Nat) (os : List Int) (w : World) (h : FramesA w w.heap.size A l) (hG : GatesA w w.heap.size G rs) (hm : rs.length ≤ maxLen) (hO : IntsA w w.heap.size O os)
    {b : Bool} {c : Int} (hp : keepsS l rs os = (b, c)) :
    Calls Try.prog 40 #[.slice A l.length cap, .slice G rs.length gcap, .slice O os.length ocap] w fun e w' => e = .returned (.tuple #[.bool b, .int .i64 c]) ∧ Below w.heap.size w w' := by
  have hlen := h.1
  have holen := hO.1
  unfold maxLen at hlen hm holen
  by_cases hz : relS l rs = 0
  · have hC := rcrel_any A cap l G gcap rs w h hG (by unfold maxLen; omega) hz
    have HC := Lib.hid hC
    clear hC
    have hparts := relS_parts hz
    have hl := (framesB_parts hparts.1).1
    by_cases hol : os.length = l.length
    · have HPS := Lib.hid hp
      have HZ := Lib.hid hz
      have HOL := Lib.hid hol
      have hne : ((os.length : Int) != (l.length : Int)) = false := by rw [hol]; simp
      have hr5 := hparts.2.1
      have HPA := Lib.hid hparts
      clear hp hz hol hparts
      go_enter Try.func40, Try.ntmps40
      go_wp2_with (go_at_call 80; refine HC.out.mono ?_; rintro e w1 ⟨rfl, hb1⟩)
      go_loopw [9] (fun vi wr => ∃ k : Nat, k ≤ os.length ∧ vi = .int .i64 k ∧ Hid (∀ j, j < k → offB (os.getD j 0) = true) ∧ Below w.heap.size w wr) (fun vi _ => os.length - (intOf vi).toNat)
      case atStart => exact ⟨0, Nat.zero_le _, rfl, fun j hj => by omega, hb1⟩
      case round =>
        clear hb1
        obtain ⟨k, hk, rfl, HI, hbw⟩ := hrel
        by_cases hlt : k < os.length
        · obtain ⟨ob, oo, rfl, hob, o0⟩ := (hO.below hbw (Nat.le_refl _)).at_ hlt
          obtain ⟨x, hx⟩ : ∃ x, inB (os.getD k 0) 0 1000000 = x := ⟨_, rfl⟩
          have HX := Lib.hid hx
          clear hx
          generalize hov : os.getD k 0 = o at *
          have HOV := Lib.hid hov
          clear hov
          rcases x with _ | _
          · go_wp2_with (go_at_call 64; refine (rwithin_b o _ _ _ _ HX.out).mono ?_; rintro e w' ⟨rfl, rfl⟩)
            go_ret2
            exact ⟨by
              have h1 := HPS.out
              rw [keepsS_arg HZ.out (fun h => by rw [offs_no hlt (by rw [HOV.out]; exact HX.out)] at h; cases h.2)] at h1
              injection h1 with h1 h2
              subst h1
              subst h2
              rfl, hbw⟩
          · go_wp2_with (go_at_call 64; refine (rwithin_b o _ _ _ _ HX.out).mono ?_; rintro e w' ⟨rfl, rfl⟩)
            go_roundw
            case rel => exact ⟨k + 1, by omega, by go_num, nat_snoc HI.out (by rw [HOV.out]; exact HX.out), hbw⟩
            case measure => simp [intOf]; omega
        · obtain rfl : k = os.length := by omega
          have hoff := offs_yes HI.out
          have hp := HPS.out
          rw [keepsS_ok HZ.out HOL.out hoff] at hp
          injection hp with hp1 hp2
          subst hp2
          have HP := Lib.hid hp1
          have HDU : Hid (∀ w1, Below w.heap.size w w1 → Calls Try.prog 41 #[.slice A l.length cap, .slice G rs.length gcap, .slice O os.length ocap] w1 fun e w' => ∃ X xk x, e = .returned (.slice X rs.length xk) ∧ rs.length ≤ xk ∧ IntsA w' w'.heap.size X x ∧ (x.length = rs.length ∧ ∀ k, k < rs.length → x.getD k 0 = dueS l rs os k) ∧ Below w1.heap.size w1 w') := fun w1 hb => due_any A cap l G gcap rs O ocap os w1 ((h.keep hb).more hb.size) ((SlA.below hG hb (Nat.le_refl _)).more hb.size) ((hO.below hb (Nat.le_refl _)).more hb.size) HZ.out HOL.out hoff
          have HF := Lib.hid (framesF HPA.out.1)
          have HR := Lib.hid (fun k r (hk : rs[k]? = some r) => relsB_at HPA.out.2.2 hk)
          have HLB := Lib.hid (fun f k (hk : k ≤ rs.length) => lastTo_bd HPA.out.2.2 f k hk)
          have HOF := Lib.hid (fun k (hk : k < os.length) => offs_at hoff hk)
          clear hp1 hoff HPS HI
          go_wp2_with (first | (go_at_call 41; refine (HDU.out _ hbw).mono ?_; rintro e w3 ⟨X, xk, x, rfl, hxk, hX, ⟨hxl, hxd⟩, hb3⟩; have HXL := Lib.hid hxl; have HXD := Lib.hid hxd; clear hxl hxd) | (at_make; refine mk_ints _ rfl _ _ rfl l.length rfl rfl (by omega) ?_; intro w4 hM hb4))
          have hXb := hX.below hb4 (Nat.le_refl _)
          have hb5 := (hbw.trans (hb3.mono hbw.size)).trans (hb4.mono (by have := hbw.size; have := hb3.size; omega))
          have hgl0 : w.heap.size ≤ w3.heap.size := by have := hbw.size; have := hb3.size; omega
          generalize w3.heap.size = gl at *
          clear hX hb3 hb4 hbw
          go_loopw [12] (fun vi wr => ∃ k : Nat, k ≤ rs.length ∧ vi = .int .i64 k ∧ IntsA wr gl X x ∧ OwnF wr gl 3 l.length (fun f => .int .i64 (lastTo rs f k)) ∧ Hid (∀ j, j < k → keepOk l rs os j = true) ∧ Below w.heap.size w wr) (fun vi _ => rs.length - (intOf vi).toNat)
          case atStart => exact ⟨0, Nat.zero_le _, rfl, hXb, hM, fun j hj => by omega, hb5⟩
          case round =>
            clear hXb hM hb5
            obtain ⟨k, hk, rfl, hX, hL, HI, hbw⟩ := hrel
            by_cases hlt : k < rs.length
            · obtain ⟨r, rb, ro, hr, rfl, hrb, c0, c1⟩ := GatesA.at_ (SlA.below hG hbw (Nat.le_refl _)) hlt
              have hrr := (HR.out k r hr).1
              have hrd := (HR.out k r hr).2
              have HRK := Lib.hid (relAt_of hr)
              clear hr
              obtain ⟨f, fb, fo, hf, rfl, hfb, _, f1, f2, _, _⟩ := (h.keep hbw).at_ (k := r.rate.toNat) (by omega)
              have hfo := HF.out _ f hf
              have hfe := hfo.2.1
              have hfj := hfo.2.2.2.1
              have hoo := HOF.out r.rate.toNat (by have := HOL.out; omega)
              have hsk := sameTo_le (rs := rs) (f := r.rate) k
              have hdb := dueAt_bd (n := sameTo rs r.rate k) hf hfe hoo (by omega)
              have hlb := HLB.out r.rate k hk
              have HFA := Lib.hid (frAt_of hf)
              have HDS : Hid (dueS l rs os k = dueAt l os r.rate (sameTo rs r.rate k)) := by show _ = _; unfold dueS; rw [HRK.out]
              obtain ⟨xb, xo, rfl, hxb, x0⟩ := hX.at_ (k := k) (by have := HXL.out; omega)
              rw [HXD.out k hlt, HDS.out] at x0
              have hrt : ((r.rate.toNat : Nat) : Int) = r.rate := by omega
              have HRT := Lib.hid hrt
              have HLN : Hid (∀ j, j < l.length → (if j = r.rate.toNat then Value.int .i64 r.delay else .int .i64 (lastTo rs (j : Int) k)) = .int .i64 (lastTo rs (j : Int) (k + 1))) := fun j hj => by
                by_cases e : j = r.rate.toNat
                · subst e
                  rw [if_pos rfl, hrt, lastTo, HRK.out, if_pos rfl]
                · rw [if_neg e, lastTo, HRK.out, if_neg (by omega)]
              clear hf hfo hoo hsk hrt
              obtain ⟨y, hy⟩ : ∃ y, inB r.delay (max (dueAt l os r.rate (sameTo rs r.rate k)) (lastTo rs r.rate k)) (dueAt l os r.rate (sameTo rs r.rate k) + f.jitter) = y := ⟨_, rfl⟩
              have HKE := Lib.hid (keepOk_max HRK.out HFA.out HDS.out rfl hy)
              have X0 := Lib.hid hy
              clear hy HDS
              go_wp2_with fail
              have hb1 : Below w.heap.size w (wr.alloc (.cells #[.int .i64 r.rate, .int .i64 r.delay] 63)) := hbw.alloc (by have := hbw.size; omega) _
              have n0 := newcell wr #[.int .i64 r.rate, .int .i64 r.delay] 63 0
              have n1 := newcell wr #[.int .i64 r.rate, .int .i64 r.delay] 63 1
              simp only [List.getElem?_toArray, List.getElem?_cons_succ, List.getElem?_cons_zero] at n0 n1
              have hL1 := hL.alloc (.cells #[.int .i64 r.rate, .int .i64 r.delay] 63)
              have hwr : wr.heap.size < (wr.alloc (.cells #[.int .i64 r.rate, .int .i64 r.delay] 63)).heap.size := by simp
              have hgw2 : gl < wr.heap.size := hL.lt
              have hX1 := hX.alloc (by omega) (.cells #[.int .i64 r.rate, .int .i64 r.delay] 63) (Nat.le_refl _)
              have l1 := hL1.cell (j := r.rate.toNat) (by omega)
              rw [HRT.out] at l1
              have g2 := (bcell hb1 fb (fo + r.rate.toNat * 5 + 2) hfb).trans ((bcell hbw fb (fo + r.rate.toNat * 5 + 2) hfb).symm.trans f2)
              have x1 := (acell wr (.cells #[.int .i64 r.rate, .int .i64 r.delay] 63) xb (xo + k) (by omega)).trans x0
              generalize hW1 : wr.alloc (.cells #[.int .i64 r.rate, .int .i64 r.delay] 63) = W1 at *
              generalize wr.heap.size = rp at *
              clear hL hX c0 c1 f1 f2 hW1 hbw x0
              generalize dueAt l os r.rate (sameTo rs r.rate k) = d at *
              generalize lastTo rs r.rate k = t at *
              have e1 : IntKind.i64.wrap (d + f.jitter) = d + f.jitter := IntWalk.i64_in _ (by omega)
              by_cases hdt : d < t
              · have X1 : Hid (inB r.delay t (d + f.jitter) = y) := by show _ = _; rw [← X0.out, Int.max_eq_right (by omega)]
                clear X0
                go_quiet ((go_at_call 64; exact quiet_w (rwithin_b _ _ _ _ _ X1.out)))
                have hb2 := bdrw hb1 nq
                have hX2 := hX1.drewN nq
                have hL2 : OwnF (W1.drewN nq) gl 3 l.length _ := hL1
                have hrp : rp < (W1.drewN nq).heap.size := hwr
                have nn0 : (W1.drewN nq).cell? ⟨rp, 0, none⟩ = _ := n0
                have nn1 : (W1.drewN nq).cell? ⟨rp, 1, none⟩ = _ := n1
                generalize W1.drewN nq = W2 at *
                clear n0 n1 l1 g2 hb1 hX1 hL1 hwr e1 x1
                have l3 := hL2.cell (j := r.rate.toNat) (by omega)
                have lf := hL2.frozen r.rate.toNat
                rcases y with _ | _
                · go_wp2_with fail
                  go_ret2
                  exact ⟨ret_bi (by rw [← HP.out, keepsB_no hlt HKE.out]), hb2⟩
                · go_wp2_with fail
                  go_roundw
                  case rel =>
                    exact ⟨k + 1, by omega, by go_num, hX2.below ((Below.refl gl W2).setCell (p := ⟨gl, r.rate.toNat, none⟩) (Nat.le_refl _) _) (Nat.le_refl _), (hL2.set r.rate.toNat (.int .i64 r.delay)).congr HLN.out, nat_snoc HI.out HKE.out, hb2.setCell (p := ⟨gl, r.rate.toNat, none⟩) hgl0 _⟩
                  case measure => simp [intOf]; omega
              · have X1 : Hid (inB r.delay d (d + f.jitter) = y) := by show _ = _; rw [← X0.out, Int.max_eq_left (by omega)]
                clear X0
                go_quiet ((go_at_call 64; exact quiet_w (rwithin_b _ _ _ _ _ X1.out)))
                have hb2 := bdrw hb1 nq
                have hX2 := hX1.drewN nq
                have hL2 : OwnF (W1.drewN nq) gl 3 l.length _ := hL1
                have hrp : rp < (W1.drewN nq).heap.size := hwr
                have nn0 : (W1.drewN nq).cell? ⟨rp, 0, none⟩ = _ := n0
                have nn1 : (W1.drewN nq).cell? ⟨rp, 1, none⟩ = _ := n1
                generalize W1.drewN nq = W2 at *
                clear n0 n1 l1 g2 hb1 hX1 hL1 hwr e1 x1
                have l3 := hL2.cell (j := r.rate.toNat) (by omega)
                have lf := hL2.frozen r.rate.toNat
                rcases y with _ | _
                · go_wp2_with fail
                  go_ret2
                  exact ⟨ret_bi (by rw [← HP.out, keepsB_no hlt HKE.out]), hb2⟩
                · go_wp2_with fail
                  go_roundw
                  case rel =>
                    exact ⟨k + 1, by omega, by go_num, hX2.below ((Below.refl gl W2).setCell (p := ⟨gl, r.rate.toNat, none⟩) (Nat.le_refl _) _) (Nat.le_refl _), (hL2.set r.rate.toNat (.int .i64 r.delay)).congr HLN.out, nat_snoc HI.out HKE.out, hb2.setCell (p := ⟨gl, r.rate.toNat, none⟩) hgl0 _⟩
                  case measure => simp [intOf]; omega
            · obtain rfl : k = rs.length := by omega
              go_wp2_with fail
              go_ret2
              exact ⟨ret_bi (by rw [← HP.out, keepsB_yes fun k hk => HI.out k hk]), hbw⟩
    · rw [keepsS_arg hz (fun h => hol h.1)] at hp
      injection hp with hp1 hp2
      subst hp1
      subst hp2
      have hne : ((os.length : Int) != (l.length : Int)) = true := by rw [bne_iff_ne]; omega
      clear hz hol hO
      go_enter Try.func40, Try.ntmps40
      go_wp2_with (go_at_call 80; refine HC.out.mono ?_; rintro e w1 ⟨rfl, hb1⟩)
      go_ret2
      exact ⟨rfl, hb1⟩
  · rw [keepsS_err hz] at hp
    injection hp with hp1 hp2
    subst hp1
    have hC := rcrel_any A cap l G gcap rs w h hG (by unfold maxLen; omega) hp2
    have hcs := relS_in l rs
    rw [hp2] at hcs hz
    have hcs := hcs.resolve_left hz
    have HC := Lib.hid hC
    clear hC hp2 hz
    rcases hcs with rfl | rfl | rfl
    all_goals
      go_enter Try.func40, Try.ntmps40
      go_wp2_with (go_at_call 80; refine HC.out.mono ?_; rintro e w1 ⟨rfl, hb1⟩)
      go_ret2
      exact ⟨rfl, hb1⟩
end Go.Proofs.Ytlbbhlkbhegegaa
