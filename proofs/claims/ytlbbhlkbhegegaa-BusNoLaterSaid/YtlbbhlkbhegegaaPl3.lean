/- Walks: bus.Play. -/
import Derived.Test.YtlbbhlkbhegegaaPl2
import Derived.Test.YtlbbhlkbhegegaaRp1
import Derived.Test.YtlbbhlkbhegegaaRs1
import Derived.Test.YtlbbhlkbhegegaaQb
namespace Go.Proofs.Ytlbbhlkbhegegaa
open Go.RowKit

theorem cellI_of {w : World} {g n : Nat} {E : Nat → Int} (h : OwnF w g 3 n (fun k => .int .i64 (E k))) : ∀ k, k < n → cellI w g k = E k := fun k hk => by
  unfold cellI
  rw [h.cell hk]
theorem OwnF.listI {w : World} {g n : Nat} {E : Nat → Int} (h : OwnF w g 3 n (fun k => .int .i64 (E k))) (hn : n ≤ 1000000) : IntsA w w.heap.size (some ⟨g, 0, none⟩) ((List.range n).map E) := by
  have hl : ((List.range n).map E).length = n := by simp
  refine OwnF.ints (T := 3) ?_ (by rw [hl]; unfold maxLen; omega)
  rw [hl]
  exact h.congr fun j hj => by simp [List.getD_eq_getElem?_getD, hj]
def nextV : Option Nat → Int
  | none => -1
  | some k => k
def soonV : Option Int → Int
  | none => -1
  | some s => s
def playL (l : List MFrame) (rs : List MGate) : List Int := if relS l rs = 0 then (List.range rs.length).map (playS l rs) else []

set_option maxRecDepth 100000 in
set_option maxHeartbeats 4000000 in
theorem play_any (A : Option Addr) (cap : Nat) (l : List MFrame) (G : Option Addr) (gcap : Nat) (rs : List MGate) (w : World) (h : FramesA w w.heap.size A l) (hcap : l.length ≤ cap) (hG : GatesA w w.heap.size G rs) (hm : rs.length ≤ maxLen) :
    Calls Try.prog 36 #[.slice A l.length cap, .slice G rs.length gcap] w (RetLE w (playL l rs) (relS l rs)) := by
  by_cases hz : relS l rs = 0
  · have hC := crel_any A cap l G gcap rs w h hcap hG hm hz
    have HE := Lib.hid (show playL l rs = (List.range rs.length).map (playS l rs) by unfold playL; rw [if_pos hz])
    have hparts := relS_parts hz
    have hl := (framesB_parts hparts.1).1
    have HF := Lib.hid (framesF hparts.1)
    have hr5 := hparts.2.1
    have HR := Lib.hid (fun k r (hk : rs[k]? = some r) => relsB_at hparts.2.2 hk)
    rw [hz]
    have HC := Lib.hid hC
    clear hC hz hparts hm
    have HRP : Hid (∀ w1 : World, Calls Try.prog 70 #[.slice (some ⟨w1.heap.size, 0, none⟩) 1 1, .int .i64 rs.length] (w1.alloc (.cells #[.int .i64 (-1)] 3)) fun e w' => ∃ g, e = .returned (.slice (some ⟨g, 0, none⟩) rs.length rs.length) ∧ (w1.alloc (.cells #[.int .i64 (-1)] 3)).heap.size ≤ g ∧ OwnF w' g 3 rs.length (fun _ => .int .i64 (-1)) ∧ Below (w1.alloc (.cells #[.int .i64 (-1)] 3)).heap.size (w1.alloc (.cells #[.int .i64 (-1)] 3)) w') := fun w1 => repeat_any w1.heap.size 1 rs.length (-1) _ (newcell _ _ _ _) (by simp) (by omega)
    go_enter Try.func36, Try.ntmps36
    go_wp2_with (first | (go_at_call 76; refine HC.out.mono ?_; rintro e w1 ⟨rfl, hb1⟩) | (go_at_call 70; refine (HRP.out w1).mono ?_; rintro e w2 ⟨g, rfl, hg, hO, hb2⟩))
    have hbw2 : Below w.heap.size w w2 := hb1.trans (((Below.refl _ _).alloc hb1.size _).trans (hb2.mono (by simp; have := hb1.size; omega)))
    have hgw : w.heap.size ≤ g := by have := hb1.size; simp at hg; omega
    clear hb1 hb2 hg HRP HC
    go_loopw [8] (fun v wr => ∃ (u : Nat) (now : Int) (E : Nat → Int), v = .int .i64 now ∧ Hid (playGo l rs u now E = playS l rs) ∧ Hid (cntN E rs.length = u) ∧ (0 ≤ now ∧ now + 1000 * u ≤ 1000000 + 1000 * rs.length) ∧ OwnF wr g 3 rs.length (fun k => .int .i64 (E k)) ∧ Below w.heap.size w wr) (fun v wr => muP l rs (cellI wr g) (intOf v))
    case atStart => exact ⟨rs.length, 0, fun _ => -1, rfl, rfl, cntN_all _, by omega, hO, hbw2⟩
    case round =>
      clear hO hbw2
      obtain ⟨u, now, E, rfl, HP, HU, hnow, hO, hbw⟩ := hrel
      have hul : u ≤ rs.length := by rw [← HU.out]; exact cntN_le _
      go_wp2_with fail
      obtain ⟨wo, rfl⟩ : ∃ wo : World, wo = wr := ⟨_, rfl⟩
      go_loopw [9, 10, 25] (fun vn vs vi wr => ∃ k : Nat, k ≤ rs.length ∧ vi = .int .i64 k ∧ vn = .int .i64 (nextV (pickTo l rs E now k)) ∧ vs = .int .i64 (soonV (soonTo rs E now k)) ∧ Below wo.heap.size wo wr) (fun _ _ vi _ => rs.length - (intOf vi).toNat)
      case atStart => exact ⟨0, Nat.zero_le _, rfl, rfl, rfl, Below.refl _ _⟩
      case round =>
        obtain ⟨k, hk, rfl, rfl, rfl, hbi⟩ := hrel
        have hbb := hbw.trans (hbi.mono hbw.size)
        have hOi := hO.below hbi hO.lt
        have hsz := hbb.size
        have hszi := hbi.size
        have hGi : GatesA wr wr.heap.size G rs := (SlA.below hG hbb (Nat.le_refl _)).more hsz
        have hAi := (h.keep hbb).more hsz
        by_cases hlt : k < rs.length
        · obtain ⟨r, rb, ro, hr, rfl, hrb, c0, c1⟩ := hGi.at_ hlt
          have hrr := HR.out k r hr
          have HRK := Lib.hid (relAt_of hr)
          clear hr
          have ec := hOi.cell hlt
          have hgl := hOi.lt
          have hb1 : Below wo.heap.size wo (wr.alloc (.cells #[.int .i64 r.rate, .int .i64 r.delay] 63)) := hbi.trans ((Below.refl _ _).alloc (Nat.le_refl _) _ |>.mono hszi)
          have ec1 := (acell wr (.cells #[.int .i64 r.rate, .int .i64 r.delay] 63) g k hgl).trans ec
          rcases Int.lt_or_le (E k) 0 with hE | hE
          · rcases Int.lt_or_le now r.delay with hd | hd
            · have HE1 : Hid (pickTo l rs E now (k + 1) = pickTo l rs E now k) := by
                show _ = _
                have hw : waitsB E rs now k = false := by unfold waitsB; rw [HRK.out, decide_eq_false (p := r.delay ≤ now) (by omega), Bool.and_false]
                rw [pickTo, hw]
                rcases pickTo l rs E now k with _ | j <;> simp
              have hw : laterB E rs now k = true := by unfold laterB; rw [HRK.out, decide_eq_true hE, decide_eq_true hd]; rfl
              rcases hs : soonTo rs E now k with _ | s0
              · have HE2 : Hid (soonTo rs E now (k + 1) = some r.delay) := by
                  show _ = _
                  rw [soonTo, if_pos hw, hs, HRK.out]
                have HN : Hid (soonV none = -1) := rfl
                clear ec hs hw
                generalize soonV none = sv at *
                obtain rfl : sv = -1 := HN.out
                generalize E k = ek at *
                go_wp2_with fail
                go_roundw
                case rel => exact ⟨k + 1, by omega, by go_num, by rw [HE1.out], by rw [HE2.out]; rfl, hb1⟩
                case measure => simp [intOf]; omega
              · obtain ⟨j, hj, hlj, hdj⟩ := soonTo_some hs
                have hs0 : 0 ≤ s0 := by
                  have := HR.out j _ (List.getElem?_eq_getElem (show j < rs.length by omega))
                  rw [← hdj, relAt_of (List.getElem?_eq_getElem (show j < rs.length by omega))]
                  omega
                have HN : Hid (soonV (some s0) = s0) := rfl
                rcases Int.lt_or_le r.delay s0 with hds | hds
                · have HE2 : Hid (soonTo rs E now (k + 1) = some r.delay) := by
                    show _ = _
                    rw [soonTo, if_pos hw, hs, HRK.out]
                    simp only [if_pos hds]
                  clear ec hs hw hj hlj hdj
                  generalize soonV (some s0) = sv at *
                  obtain rfl : sv = s0 := HN.out
                  generalize E k = ek at *
                  go_wp2_with fail
                  go_roundw
                  case rel => exact ⟨k + 1, by omega, by go_num, by rw [HE1.out], by rw [HE2.out]; rfl, hb1⟩
                  case measure => simp [intOf]; omega
                · have HE2 : Hid (soonTo rs E now (k + 1) = some s0) := by
                    show _ = _
                    rw [soonTo, if_pos hw, hs, HRK.out]
                    simp only [if_neg (show ¬ r.delay < s0 by omega)]
                  clear ec hs hw hj hlj hdj
                  generalize soonV (some s0) = sv at *
                  obtain rfl : sv = s0 := HN.out
                  generalize E k = ek at *
                  go_wp2_with fail
                  go_roundw
                  case rel => exact ⟨k + 1, by omega, by go_num, by rw [HE1.out], by rw [HE2.out]; rfl, hb1⟩
                  case measure => simp [intOf]; omega
            · have HE2 : Hid (soonTo rs E now (k + 1) = soonTo rs E now k) := by
                show _ = _
                have hw : laterB E rs now k = false := by unfold laterB; rw [HRK.out, decide_eq_false (p := now < r.delay) (by omega), Bool.and_false]
                rw [soonTo, hw]; simp
              have hw : waitsB E rs now k = true := by unfold waitsB; rw [HRK.out, decide_eq_true hE, decide_eq_true hd]; rfl
              rcases hp : pickTo l rs E now k with _ | j
              · have HE1 : Hid (pickTo l rs E now (k + 1) = some k) := by
                  show _ = _
                  rw [pickTo, hp]
                  simp only [if_pos hw]
                have HN : Hid (nextV none = -1) := rfl
                clear ec hp hw
                generalize nextV none = nv at *
                obtain rfl : nv = -1 := HN.out
                generalize E k = ek at *
                go_wp2_with fail
                go_quiet (fail)
                go_wp2_with fail
                go_roundw
                case rel => exact ⟨k + 1, by omega, by go_num, by rw [HE1.out]; rfl, by rw [HE2.out], bdrw hb1 _⟩
                case measure => simp [intOf]; omega
              · have hjk := (pickTo_some hp).1
                have hj0 : decide ((j : Int) < 0) = false := decide_eq_false (by omega)
                obtain ⟨q, qb, qo, hq, hA, hqb, d0, d1⟩ := hGi.at_ (show j < rs.length by omega)
                injection hA with hA
                injection hA with hA1 hA2
                subst hA1
                subst hA2
                have hqq := HR.out j q hq
                have HQK := Lib.hid (relAt_of hq)
                clear hq
                have HN : Hid (nextV (some j) = (j : Int)) := rfl
                have n0 := newcell wr #[.int .i64 r.rate, .int .i64 r.delay] 63 0
                have n1 := newcell wr #[.int .i64 r.rate, .int .i64 r.delay] 63 1
                simp only [List.getElem?_toArray, List.getElem?_cons_succ, List.getElem?_cons_zero] at n0 n1
                have m0 := BW.cell (B := wr.heap.size + 1) (show wr.heap.size < wr.heap.size + 1 by omega) n0
                have m1 := BW.cell (B := wr.heap.size + 1) (show wr.heap.size < wr.heap.size + 1 by omega) n1
                have m2 := BW.cell (B := wr.heap.size + 1) (show rb < wr.heap.size + 1 by omega) ((acell wr (.cells #[.int .i64 r.rate, .int .i64 r.delay] 63) rb _ hqb).trans d0)
                have m3 := BW.cell (B := wr.heap.size + 1) (show rb < wr.heap.size + 1 by omega) ((acell wr (.cells #[.int .i64 r.rate, .int .i64 r.delay] 63) rb _ hqb).trans d1)
                have hAi1 : FramesA (wr.alloc (.cells #[.int .i64 r.rate, .int .i64 r.delay] 63)) wr.heap.size A l := hAi.keep ((Below.refl _ _).alloc (Nat.le_refl _) _)
                rcases hbf : beforeB l r q
                all_goals
                  have HB : Hid (∀ s : BW (wr.heap.size + 1) (wr.alloc (.cells #[.int .i64 r.rate, .int .i64 r.delay] 63)), Calls Try.prog 77 #[.slice A l.length cap, relV r, relV q] s.1 fun e w' => e = .returned (.bool _) ∧ Below s.1.heap.size s.1 w') := fun s => before_any A cap l r q s.1 ((hAi1.below s.2 (by omega)).more (by have := s.2.size; simp at this; omega)) hrr.1 hqq.1 hbf
                  have HBF := Lib.hid hbf
                  have HP0 := Lib.hid hp
                  have HW0 := Lib.hid hw
                  clear hbf hp hw ec d0 d1 n0 n1 hAi1
                  generalize nextV (some j) = nv at *
                  obtain rfl : nv = (j : Int) := HN.out
                  generalize E k = ek at *
                  go_wp2_with fail
                  refine wp_region_below (wr.heap.size + 1) (wr.alloc (.cells #[.int .i64 r.rate, .int .i64 r.delay] 63)) (Below.refl _ _) (by kernel_rfl) (by kernel_rfl) ?_
                  repeat (go_big_quiet_step ((go_at_call 77; exact quiet_below (by simp) (HB.out _))))
                  refine wpQuiet_nil ?_
                  clear m0 m1 m2 m3 HB
                  intro s
                  have hbs : Below wo.heap.size wo s.1 := hb1.trans (s.2.mono (by omega))
                  generalize s.1 = w6 at *
                  go_wp2_with fail
                  go_roundw
                · case rel =>
                    have HE1 : pickTo l rs E now (k + 1) = some j := by
                      rw [pickTo, HP0.out]
                      simp only [HRK.out, HQK.out, HBF.out, HW0.out]
                      rfl
                    exact ⟨k + 1, by omega, by go_num, by rw [HE1]; rfl, by rw [HE2.out], hbs⟩
                · case measure => simp [intOf]; omega
                · case rel =>
                    have HE1 : pickTo l rs E now (k + 1) = some k := by
                      rw [pickTo, HP0.out]
                      simp only [HRK.out, HQK.out, HBF.out, HW0.out]
                      rfl
                    exact ⟨k + 1, by omega, by go_num, by rw [HE1]; rfl, by rw [HE2.out], hbs⟩
                · case measure => simp [intOf]; omega
          · have HE1 : Hid (pickTo l rs E now (k + 1) = pickTo l rs E now k) := by
              show _ = _
              have hw : waitsB E rs now k = false := by unfold waitsB; rw [decide_eq_false (by omega)]; rfl
              rw [pickTo, hw]
              rcases pickTo l rs E now k with _ | j <;> simp
            have HE2 : Hid (soonTo rs E now (k + 1) = soonTo rs E now k) := by
              show _ = _
              have hw : laterB E rs now k = false := by unfold laterB; rw [decide_eq_false (by omega)]; rfl
              rw [soonTo, hw]; simp
            clear ec
            generalize E k = ek at *
            go_wp2_with fail
            go_roundw
            case rel => exact ⟨k + 1, by omega, by go_num, by rw [HE1.out], by rw [HE2.out], hb1⟩
            case measure => simp [intOf]; omega
        · obtain rfl : k = rs.length := by omega
          have hgl := hOi.lt
          rcases hp : pickTo l rs E now rs.length with _ | i
          · have HN : Hid (nextV none = -1) := rfl
            generalize nextV none = nv at *
            obtain rfl : nv = -1 := HN.out
            rcases hs : soonTo rs E now rs.length with _ | s0
            · have HZ : Hid (E = playS l rs) := by show _ = _; rw [← HP.out, playGo_end hp hs]
              have HN2 : Hid (soonV none = -1) := rfl
              generalize soonV none = sv at *
              obtain rfl : sv = -1 := HN2.out
              clear hp hs
              go_wp2_with fail
              go_ret2
              refine ⟨hbb, some ⟨g, 0, none⟩, rs.length, ?_, ?_, ?_⟩
              · rw [HE.out, List.length_map, List.length_range]; rfl
              · rw [HE.out, List.length_map, List.length_range]; exact Nat.le_refl _
              · rw [HE.out, ← HZ.out]; exact hOi.listI (by omega)
            · obtain ⟨j, hj, hlj, hdj⟩ := soonTo_some hs
              have hs0 : 0 ≤ s0 ∧ s0 ≤ 1000000 := by
                have := HR.out j _ (List.getElem?_eq_getElem (show j < rs.length by omega))
                rw [← hdj, relAt_of (List.getElem?_eq_getElem (show j < rs.length by omega))]
                omega
              have hu1 : ∃ u1, u = u1 + 1 := by
                have : 0 < cntN E rs.length := cntN_pos hj (by unfold laterB at hlj; rw [Bool.and_eq_true] at hlj; exact of_decide_eq_true hlj.1)
                rw [HU.out] at this
                exact ⟨u - 1, by omega⟩
              have HN2 : Hid (soonV (some s0) = s0) := rfl
              have HPL : Hid (playGo l rs u s0 E = playS l rs) := by
                show _ = _
                obtain ⟨u1, rfl⟩ := hu1
                rw [← HP.out, playGo_wait hp hs]
              have HMU := Lib.hid (muP_wait hp hs)
              generalize soonV (some s0) = sv at *
              obtain rfl : sv = s0 := HN2.out
              clear hp hs hj hlj hdj hu1
              go_wp2_with fail
              go_roundw
              case rel => exact ⟨u, sv, E, rfl, HPL, HU, by omega, hOi, hbb⟩
              case measure =>
                simp only [intOf]
                rw [muP_congr (cellI_of hOi), muP_congr (cellI_of hO)]
                exact HMU.out
          · obtain ⟨hil, hiw⟩ := pickTo_some hp
            have hE : E i < 0 := by unfold waitsB at hiw; rw [Bool.and_eq_true] at hiw; exact of_decide_eq_true hiw.1
            obtain ⟨r, rb, ro, hr, rfl, hrb, c0, c1⟩ := hGi.at_ hil
            have hrr := HR.out i r hr
            have HRK := Lib.hid (relAt_of hr)
            clear hr c1 hiw
            obtain ⟨f, fb, fo, hf, rfl, hfb, d0, _, _, _, _⟩ := hAi.at_ (k := r.rate.toNat) (by omega)
            have hfo := HF.out _ f hf
            have hsz1 := hfo.1
            have HSZ : Hid (sizeOf_ l (relAt rs i) = f.size) := by
              show _ = _
              unfold sizeOf_
              rw [HRK.out, List.getD_eq_getElem?_getD, hf]; rfl
            have hu1 : ∃ u1, u = u1 + 1 := by
              have : 0 < cntN E rs.length := cntN_pos hil hE
              rw [HU.out] at this
              exact ⟨u - 1, by omega⟩
            obtain ⟨u1, rfl⟩ := hu1
            have HPL : Hid (playGo l rs u1 (now + f.size) (updE E i (now + f.size)) = playS l rs) := by
              show _ = _
              rw [← HP.out, playGo_some hp, HSZ.out]
            have HMU : Hid (muP l rs (updE E i (now + f.size)) (now + f.size) < muP l rs E now) := muP_sent hil hE (by omega)
            have HCU : Hid (cntN (updE E i (now + f.size)) rs.length = u1) := by
              show _ = _
              have h1 := cntN_upd (x := now + f.size) (by omega) hE rs.length
              rw [if_pos hil, HU.out] at h1
              omega
            have HN : Hid (nextV (some i) = (i : Int)) := rfl
            generalize nextV (some i) = nv at *
            obtain rfl : nv = (i : Int) := HN.out
            have et : IntKind.i64.wrap (now + f.size) = now + f.size := IntWalk.i64_in _ (by omega)
            have gf := hOi.frozen i
            have gc := hOi.cell hil
            have hii : (0 : Int) ≤ (i : Int) := by omega
            have HX : Hid (OwnF (wr.setCell ⟨g, i, none⟩ (.int .i64 (now + f.size))) g 3 rs.length (fun k => .int .i64 (updE E i (now + f.size) k))) := (hOi.set i (.int .i64 (now + f.size))).congr fun k _ => by
              unfold updE
              by_cases e : k = i
              · rw [if_pos e, if_pos e]
              · rw [if_neg e, if_neg e]
            clear hp hf hfo hE
            go_wp2_with fail
            go_roundw
            case rel => exact ⟨u1, now + f.size, updE E i (now + f.size), rfl, HPL, HCU, by omega, HX.out, hbb.setCell (p := ⟨g, i, none⟩) hgw _⟩
            case measure =>
              simp only [intOf]
              rw [muP_congr (cellI_of HX.out), muP_congr (cellI_of hO)]
              exact HMU.out
  · obtain ⟨c, hc⟩ : ∃ c, relS l rs = c := ⟨_, rfl⟩
    have hC := crel_any A cap l G gcap rs w h hcap hG hm hc
    have HE := Lib.hid (show playL l rs = [] by unfold playL; rw [if_neg hz])
    rw [hc] at hz ⊢
    have hcz : (c == 0) = false := by rw [beq_eq_false_iff_ne]; exact hz
    have hcs : c = 40 ∨ c = 2 ∨ c = 1 := by
      have h0 := hc
      unfold relS at h0
      by_cases h1 : framesB l = false
      · rw [if_pos h1] at h0; omega
      · rw [if_neg h1] at h0
        by_cases h2 : 500 < rs.length
        · rw [if_pos h2] at h0; omega
        · rw [if_neg h2] at h0
          by_cases h3 : relsB l.length rs = true
          · rw [if_pos h3] at h0; omega
          · rw [if_neg h3] at h0; omega
    have HC := Lib.hid hC
    clear hC hc hm
    rcases hcs with rfl | rfl | rfl
    all_goals
      go_enter Try.func36, Try.ntmps36
      go_wp2_with (go_at_call 76; refine HC.out.mono ?_; rintro e w1 ⟨rfl, hb1⟩)
      go_ret2
      exact RetLE.err HE.out rfl hb1
end Go.Proofs.Ytlbbhlkbhegegaa
