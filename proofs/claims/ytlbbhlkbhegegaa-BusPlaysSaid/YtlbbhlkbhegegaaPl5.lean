/- Walks: ignitionref04.Play. -/
import Derived.Test.YtlbbhlkbhegegaaPl3
namespace Go.Proofs.Ytlbbhlkbhegegaa
open Go.RowKit

/-- the first time of the first k that have no end -/
def soonA (rs : List MGate) (E : Nat → Int) : Nat → Option Int
  | 0 => none
  | k + 1 => if E k < 0 then (match soonA rs E k with
    | none => some (relAt rs k).delay
    | some s => if (relAt rs k).delay < s then some (relAt rs k).delay else some s) else soonA rs E k
theorem soonA_eq {l : List MFrame} {rs : List MGate} {E : Nat → Int} {now : Int} : ∀ {k : Nat}, pickTo l rs E now k = none → soonA rs E k = soonTo rs E now k := fun {k} h => by
  have hn := pickTo_none h
  clear h
  induction k with
  | zero => rfl
  | succ k ih =>
    rw [soonA, soonTo, ih (fun j hj => hn j (by omega))]
    have h1 := hn k (by omega)
    unfold waitsB at h1
    unfold laterB
    by_cases hE : E k < 0
    · rw [decide_eq_true hE, Bool.true_and] at h1
      have h2 := of_decide_eq_false h1
      rw [if_pos hE, decide_eq_true hE, decide_eq_true (show now < (relAt rs k).delay by omega), if_pos (show (true && true) = true from rfl)]
      rcases soonTo rs E now k <;> rfl
    · rw [if_neg hE, decide_eq_false hE, if_neg (by simp)]
theorem soonA_some {rs : List MGate} {E : Nat → Int} : ∀ {k : Nat} {s : Int}, soonA rs E k = some s → ∃ j, j < k ∧ (relAt rs j).delay = s
  | 0, s, h => by cases h
  | k + 1, s, h => by
    rw [soonA] at h
    by_cases hw : E k < 0
    · rw [if_pos hw] at h
      rcases hp : soonA rs E k with _ | s0
      · rw [hp] at h
        injection h with h
        exact ⟨k, by omega, h⟩
      · rw [hp] at h
        by_cases hd : (relAt rs k).delay < s0
        · simp only [if_pos hd] at h
          injection h with h
          exact ⟨k, by omega, h⟩
        · simp only [if_neg hd] at h
          injection h with h
          subst h
          obtain ⟨j, h1, h2⟩ := soonA_some hp
          exact ⟨j, by omega, h2⟩
    · rw [if_neg hw] at h
      obtain ⟨j, h1, h2⟩ := soonA_some h
      exact ⟨j, by omega, h2⟩
def doneV (E : Nat → Int) (k : Nat) : Int := if E k < 0 then 0 else E k
theorem doneV_neg {E : Nat → Int} {k : Nat} (h : E k < 0) : doneV E k = 0 := by unfold doneV; rw [if_pos h]
theorem doneV_pos {E : Nat → Int} {k : Nat} (h : ¬ E k < 0) : doneV E k = E k := by unfold doneV; rw [if_neg h]

theorem cntN_sign {R F : Nat → Int} : ∀ n, (∀ k, k < n → (R k < 0 ↔ F k < 0)) → cntN R n = cntN F n
  | 0, _ => rfl
  | n + 1, h => by
    rw [cntN, cntN, cntN_sign n (fun k hk => h k (by omega))]
    have := h n (by omega)
    by_cases e : R n < 0
    · rw [if_pos e, if_pos (this.1 e)]
    · rw [if_neg e, if_neg (fun e' => e (this.2 e'))]
theorem pickTo_sign {l : List MFrame} {rs : List MGate} {E F : Nat → Int} {now : Int} : ∀ {k : Nat}, (∀ j, j < k → (E j < 0 ↔ F j < 0)) → pickTo l rs E now k = pickTo l rs F now k
  | 0, _ => rfl
  | k + 1, h => by
    have hw : waitsB E rs now k = waitsB F rs now k := by unfold waitsB; rw [decide_eq_decide.2 (h k (by omega))]
    rw [pickTo, pickTo, pickTo_sign (fun j hj => h j (by omega)), hw]
theorem muP_sign {l : List MFrame} {rs : List MGate} {E F : Nat → Int} {now : Int} (h : ∀ k, k < rs.length → (E k < 0 ↔ F k < 0)) : muP l rs E now = muP l rs F now := by
  unfold muP; rw [cntN_sign _ h, pickTo_sign h]
theorem done_sign {w : World} {g n : Nat} {E : Nat → Int} (h : OwnF w g 3 n (fun k => .int .i64 (doneV E k))) (h1 : ∀ k, k < n → E k < 0 ∨ 1 ≤ E k) : ∀ k, k < n → ((if cellI w g k = 0 then -1 else cellI w g k) < 0 ↔ E k < 0) := fun k hk => by
  rw [cellI_of h k hk]
  have := h1 k hk
  unfold doneV
  by_cases e : E k < 0
  · rw [if_pos e, if_pos rfl]
    exact ⟨fun _ => e, fun _ => by decide⟩
  · rw [if_neg e, if_neg (show ¬ E k = 0 by omega)]
set_option maxRecDepth 100000 in
set_option maxHeartbeats 4000000 in
theorem rplay_any (A : Option Addr) (cap : Nat) (l : List MFrame) (G : Option Addr) (gcap : Nat) (rs : List MGate) (w : World) (h : FramesA w w.heap.size A l) (hG : GatesA w w.heap.size G rs) (hm : rs.length ≤ maxLen) :
    Calls Try.prog 38 #[.slice A l.length cap, .slice G rs.length gcap] w (RetLE w (playL l rs) (relS l rs)) := by
  by_cases hz : relS l rs = 0
  · have hC := rcrel_any A cap l G gcap rs w h hG hm hz
    have HE := Lib.hid (show playL l rs = (List.range rs.length).map (playS l rs) by unfold playL; rw [if_pos hz])
    have hparts := relS_parts hz
    have hl := (framesB_parts hparts.1).1
    have HF := Lib.hid (framesF hparts.1)
    have hr5 := hparts.2.1
    have HR := Lib.hid (fun k r (hk : rs[k]? = some r) => relsB_at hparts.2.2 hk)
    rw [hz]
    have HC := Lib.hid hC
    clear hC hz hparts hm
    go_enter Try.func38, Try.ntmps38
    go_wp2_with (first | (go_at_call 80; refine HC.out.mono ?_; rintro e w1 ⟨rfl, hb1⟩) | (at_make; refine mk_ints _ rfl _ _ rfl rs.length rfl rfl (by omega) ?_; intro w2 hO hb2))
    have hbw2 := hb1.trans (hb2.mono hb1.size)
    have hgw := hb1.size
    generalize w1.heap.size = g at *
    clear hb1 hb2 HC
    go_loopw [8, 9] (fun v vi wr => ∃ (i u : Nat) (now : Int) (E : Nat → Int), v = .int .i64 now ∧ vi = .int .i64 i ∧ i + u = rs.length ∧ Hid (playGo l rs u now E = playS l rs) ∧ Hid (cntN E rs.length = u) ∧ Hid (∀ k, k < rs.length → E k < 0 ∨ 1 ≤ E k) ∧ (0 ≤ now ∧ now + 1000 * u ≤ 1000000 + 1000 * rs.length) ∧ OwnF wr g 3 rs.length (fun k => .int .i64 (doneV E k)) ∧ Below w.heap.size w wr) (fun v vi wr => muP l rs (fun k => if cellI wr g k = 0 then -1 else cellI wr g k) (intOf v))
    case atStart => exact ⟨0, rs.length, 0, fun _ => -1, rfl, rfl, by omega, rfl, cntN_all _, fun _ _ => Or.inl (by show (-1 : Int) < 0; decide), by omega, hO, hbw2⟩
    case round =>
      clear hO hbw2
      obtain ⟨i, u, now, E, rfl, rfl, hiu, HP, HU, H1, hnow, hO, hbw⟩ := hrel
      have hul : u ≤ rs.length := by omega
      by_cases hin : i < rs.length
      · go_wp2_with fail
        obtain ⟨wo, rfl⟩ : ∃ wo : World, wo = wr := ⟨_, rfl⟩
        go_loopw [10, 11, 12] (fun vn vs vi wr => ∃ k : Nat, k ≤ rs.length ∧ vi = .int .i64 k ∧ vn = .int .i64 (nextV (pickTo l rs E now k)) ∧ vs = .int .i64 (soonV (soonA rs E k)) ∧ Below wo.heap.size wo wr) (fun _ _ vi _ => rs.length - (intOf vi).toNat)
        case atStart => exact ⟨0, Nat.zero_le _, rfl, rfl, rfl, Below.refl _ _⟩
        case round =>
          obtain ⟨k, hk, rfl, rfl, rfl, hbi⟩ := hrel
          have hbb := hbw.trans (hbi.mono hbw.size)
          have hOi := hO.below hbi hO.lt
          have hsz := hbb.size
          have hszi := hbi.size
          have hGi : GatesA wr wr.heap.size G rs := (SlA.below hG hbb (Nat.le_refl _)).more hsz
          have hAi := (h.keep hbb).more hsz
          by_cases hlt : k < rs.length
          · obtain ⟨r, rb, ro, hr, rfl, hrb, c0, c1⟩ := hGi.at_ hlt
            have hrr := HR.out k r hr
            have HRK := Lib.hid (relAt_of hr)
            clear hr
            have ec := hOi.cell hlt
            have hgl := hOi.lt
            have hb1 : Below wo.heap.size wo (wr.alloc (.cells #[.int .i64 r.rate, .int .i64 r.delay] 63)) := hbi.trans ((Below.refl _ _).alloc (Nat.le_refl _) _ |>.mono hszi)
            have ec1 := (acell wr (.cells #[.int .i64 r.rate, .int .i64 r.delay] 63) g k hgl).trans ec
            have hdn := H1.out k hlt
            rcases Int.lt_or_le (E k) 0 with hE | hE
            · have hsoon : ∃ sv sn : Int, Hid (soonV (soonA rs E k) = sv) ∧ Hid (soonV (soonA rs E (k + 1)) = sn) ∧ ((sv = -1 ∧ sn = r.delay) ∨ (0 ≤ sv ∧ r.delay < sv ∧ sn = r.delay) ∨ (0 ≤ sv ∧ sv ≤ r.delay ∧ sn = sv)) := by
                refine ⟨_, _, Lib.hid rfl, Lib.hid rfl, ?_⟩
                rw [soonA, if_pos hE, HRK.out]
                rcases hs : soonA rs E k with _ | s0
                · exact Or.inl ⟨rfl, rfl⟩
                · obtain ⟨j, hj, hdj⟩ := soonA_some hs
                  have hs0 : 0 ≤ s0 := by
                    have := HR.out j _ (List.getElem?_eq_getElem (show j < rs.length by omega))
                    rw [← hdj, relAt_of (List.getElem?_eq_getElem (show j < rs.length by omega))]
                    omega
                  by_cases hd : r.delay < s0
                  · simp only [if_pos hd]
                    exact Or.inr (Or.inl ⟨hs0, hd, by first | rfl | trivial⟩)
                  · simp only [if_neg hd]
                    exact Or.inr (Or.inr ⟨hs0, by show s0 ≤ r.delay; omega, by first | rfl | trivial⟩)
              obtain ⟨sv, sn, HSV, HSN, hcs⟩ := hsoon
              rw [HSV.out]
              clear HSV
              rw [doneV_neg hE] at ec1
              clear ec
              rcases Int.lt_or_le now r.delay with hd | hd
              · have HE1 : Hid (nextV (pickTo l rs E now (k + 1)) = nextV (pickTo l rs E now k)) := by
                  show _ = _
                  have hw : waitsB E rs now k = false := by unfold waitsB; rw [HRK.out, decide_eq_false (p := r.delay ≤ now) (by omega), Bool.and_false]
                  rw [pickTo, hw]
                  rcases pickTo l rs E now k with _ | j <;> simp
                have g1 : decide (r.delay ≤ now) = false := decide_eq_false (by omega)
                generalize nextV (pickTo l rs E now k) = nv at *
                rcases hcs with ⟨rfl, rfl⟩ | ⟨hs0, hs1, rfl⟩ | ⟨hs0, hs1, rfl⟩
                · go_wp2_with fail
                  go_quiet (fail)
                  go_wp2_with fail
                  go_roundw
                  case rel => exact ⟨k + 1, by omega, by go_num, by rw [HE1.out], by rw [HSN.out], bdrw hb1 _⟩
                  case measure => simp [intOf]; omega
                · have g2 : decide (sv < 0) = false := decide_eq_false (by omega)
                  go_wp2_with fail
                  go_quiet (fail)
                  go_wp2_with fail
                  go_roundw
                  case rel => exact ⟨k + 1, by omega, by go_num, by rw [HE1.out], by rw [HSN.out], bdrw hb1 _⟩
                  case measure => simp [intOf]; omega
                · have g2 : decide (sn < 0) = false := decide_eq_false (by omega)
                  have g3 : decide (r.delay < sn) = false := decide_eq_false (by omega)
                  go_wp2_with fail
                  go_quiet (fail)
                  go_wp2_with fail
                  go_roundw
                  case rel => exact ⟨k + 1, by omega, by go_num, by rw [HE1.out], by rw [HSN.out], bdrw hb1 _⟩
                  case measure => simp [intOf]; omega
              · have hw : waitsB E rs now k = true := by unfold waitsB; rw [HRK.out, decide_eq_true hE, decide_eq_true hd]; rfl
                rcases hp : pickTo l rs E now k with _ | j
                · have HE1 : Hid (pickTo l rs E now (k + 1) = some k) := by
                    show _ = _
                    rw [pickTo, hp]
                    simp only [if_pos hw]
                  have HN : Hid (nextV none = -1) := rfl
                  clear hp hw
                  generalize nextV none = nv at *
                  obtain rfl : nv = -1 := HN.out
                  rcases hcs with ⟨rfl, rfl⟩ | ⟨hs0, hs1, rfl⟩ | ⟨hs0, hs1, rfl⟩
                  · go_wp2_with fail
                    go_quiet (fail)
                    go_wp2_with fail
                    go_roundw
                    case rel => exact ⟨k + 1, by omega, by go_num, by rw [HE1.out]; rfl, by rw [HSN.out], bdrw hb1 _⟩
                    case measure => simp [intOf]; omega
                  · have g2 : decide (sv < 0) = false := decide_eq_false (by omega)
                    go_wp2_with fail
                    go_quiet (fail)
                    go_wp2_with fail
                    go_roundw
                    case rel => exact ⟨k + 1, by omega, by go_num, by rw [HE1.out]; rfl, by rw [HSN.out], bdrw hb1 _⟩
                    case measure => simp [intOf]; omega
                  · have g2 : decide (sn < 0) = false := decide_eq_false (by omega)
                    have g3 : decide (r.delay < sn) = false := decide_eq_false (by omega)
                    go_wp2_with fail
                    go_quiet (fail)
                    go_wp2_with fail
                    go_roundw
                    case rel => exact ⟨k + 1, by omega, by go_num, by rw [HE1.out]; rfl, by rw [HSN.out], bdrw hb1 _⟩
                    case measure => simp [intOf]; omega
                · have hjk := (pickTo_some hp).1
                  obtain ⟨q, qb, qo, hq, hA, hqb, d0, d1⟩ := hGi.at_ (show j < rs.length by omega)
                  injection hA with hA
                  injection hA with hA1 hA2
                  subst hA1
                  subst hA2
                  have hqq := HR.out j q hq
                  have HQK := Lib.hid (relAt_of hq)
                  clear hq
                  obtain ⟨f, fb, fo, hf, rfl, hfb, _, _, _, _, f4⟩ := hAi.at_ (k := r.rate.toNat) (by omega)
                  obtain ⟨f', fb', fo', hf', hA, hfb', _, _, _, _, f4'⟩ := hAi.at_ (k := q.rate.toNat) (by omega)
                  injection hA with hA
                  injection hA with hA1 hA2
                  subst hA1
                  subst hA2
                  have hj0 : decide ((j : Int) < 0) = false := decide_eq_false (by omega)
                  have HN : Hid (nextV (some j) = (j : Int)) := rfl
                  have d0' := (acell wr (.cells #[.int .i64 r.rate, .int .i64 r.delay] 63) rb _ hqb).trans d0
                  have d1' := (acell wr (.cells #[.int .i64 r.rate, .int .i64 r.delay] 63) rb _ hqb).trans d1
                  have f4a := (acell wr (.cells #[.int .i64 r.rate, .int .i64 r.delay] 63) fb _ hfb).trans f4
                  have f4b := (acell wr (.cells #[.int .i64 r.rate, .int .i64 r.delay] 63) fb _ hfb).trans f4'
                  have HE1 : Hid (pickTo l rs E now (k + 1) = if beforeB l r q = true then some k else some j) := by
                    show _ = _
                    rw [pickTo, hp]
                    simp only [HRK.out, HQK.out, hw, Bool.true_and]
                  clear hp hw d0 d1 f4 f4'
                  generalize nextV (some j) = nv at *
                  obtain rfl : nv = (j : Int) := HN.out
                  by_cases hfr : r.rate = q.rate
                  · have hff : f = f' := by
                      rw [hfr, hf'] at hf
                      injection hf with hf
                      exact hf.symm
                    subst hff
                    have g4 : decide (f.rank < f.rank) = false := decide_eq_false (Int.lt_irrefl _)
                    have g5 : (r.rate == q.rate) = true := by rw [beq_iff_eq]; exact hfr
                    have HBF := Lib.hid (before_same (l := l) hfr)
                    clear hf hf' hfr
                    by_cases hdd : r.delay < q.delay
                    · have HX : Hid (beforeB l r q = true) := by show _ = _; rw [HBF.out, decide_eq_true hdd]
                      rcases hcs with ⟨rfl, rfl⟩ | ⟨hs0, hs1, rfl⟩ | ⟨hs0, hs1, rfl⟩
                      · go_wp2_with fail
                        go_quiet (fail)
                        go_wp2_with fail
                        go_roundw
                        case rel => exact ⟨k + 1, by omega, by go_num, by rw [HE1.out, if_pos HX.out]; rfl, by rw [HSN.out], bdrw hb1 _⟩
                        case measure => simp [intOf]; omega
                      · have g2 : decide (sv < 0) = false := decide_eq_false (by omega)
                        go_wp2_with fail
                        go_quiet (fail)
                        go_wp2_with fail
                        go_roundw
                        case rel => exact ⟨k + 1, by omega, by go_num, by rw [HE1.out, if_pos HX.out]; rfl, by rw [HSN.out], bdrw hb1 _⟩
                        case measure => simp [intOf]; omega
                      · have g2 : decide (sn < 0) = false := decide_eq_false (by omega)
                        have g3 : decide (r.delay < sn) = false := decide_eq_false (by omega)
                        go_wp2_with fail
                        go_quiet (fail)
                        go_wp2_with fail
                        go_roundw
                        case rel => exact ⟨k + 1, by omega, by go_num, by rw [HE1.out, if_pos HX.out]; rfl, by rw [HSN.out], bdrw hb1 _⟩
                        case measure => simp [intOf]; omega
                    · have HX : Hid (beforeB l r q ≠ true) := by show _ ≠ _; rw [HBF.out, decide_eq_false hdd]; simp
                      have g6 : decide (r.delay < q.delay) = false := decide_eq_false hdd
                      rcases hcs with ⟨rfl, rfl⟩ | ⟨hs0, hs1, rfl⟩ | ⟨hs0, hs1, rfl⟩
                      · go_wp2_with fail
                        go_quiet (fail)
                        go_wp2_with fail
                        go_roundw
                        case rel => exact ⟨k + 1, by omega, by go_num, by rw [HE1.out, if_neg HX.out]; rfl, by rw [HSN.out], bdrw hb1 _⟩
                        case measure => simp [intOf]; omega
                      · have g2 : decide (sv < 0) = false := decide_eq_false (by omega)
                        go_wp2_with fail
                        go_quiet (fail)
                        go_wp2_with fail
                        go_roundw
                        case rel => exact ⟨k + 1, by omega, by go_num, by rw [HE1.out, if_neg HX.out]; rfl, by rw [HSN.out], bdrw hb1 _⟩
                        case measure => simp [intOf]; omega
                      · have g2 : decide (sn < 0) = false := decide_eq_false (by omega)
                        have g3 : decide (r.delay < sn) = false := decide_eq_false (by omega)
                        go_wp2_with fail
                        go_quiet (fail)
                        go_wp2_with fail
                        go_roundw
                        case rel => exact ⟨k + 1, by omega, by go_num, by rw [HE1.out, if_neg HX.out]; rfl, by rw [HSN.out], bdrw hb1 _⟩
                        case measure => simp [intOf]; omega
                  · have g5 : (r.rate == q.rate) = false := by rw [beq_eq_false_iff_ne]; exact hfr
                    have HBF := Lib.hid (before_other hfr hf hf')
                    clear hf hf' hfr
                    by_cases hdd : f.rank < f'.rank
                    · have HX : Hid (beforeB l r q = true) := by show _ = _; rw [HBF.out, decide_eq_true hdd]
                      rcases hcs with ⟨rfl, rfl⟩ | ⟨hs0, hs1, rfl⟩ | ⟨hs0, hs1, rfl⟩
                      · go_wp2_with fail
                        go_quiet (fail)
                        go_wp2_with fail
                        go_roundw
                        case rel => exact ⟨k + 1, by omega, by go_num, by rw [HE1.out, if_pos HX.out]; rfl, by rw [HSN.out], bdrw hb1 _⟩
                        case measure => simp [intOf]; omega
                      · have g2 : decide (sv < 0) = false := decide_eq_false (by omega)
                        go_wp2_with fail
                        go_quiet (fail)
                        go_wp2_with fail
                        go_roundw
                        case rel => exact ⟨k + 1, by omega, by go_num, by rw [HE1.out, if_pos HX.out]; rfl, by rw [HSN.out], bdrw hb1 _⟩
                        case measure => simp [intOf]; omega
                      · have g2 : decide (sn < 0) = false := decide_eq_false (by omega)
                        have g3 : decide (r.delay < sn) = false := decide_eq_false (by omega)
                        go_wp2_with fail
                        go_quiet (fail)
                        go_wp2_with fail
                        go_roundw
                        case rel => exact ⟨k + 1, by omega, by go_num, by rw [HE1.out, if_pos HX.out]; rfl, by rw [HSN.out], bdrw hb1 _⟩
                        case measure => simp [intOf]; omega
                    · have HX : Hid (beforeB l r q ≠ true) := by show _ ≠ _; rw [HBF.out, decide_eq_false hdd]; simp
                      have g6 : decide (f.rank < f'.rank) = false := decide_eq_false hdd
                      rcases hcs with ⟨rfl, rfl⟩ | ⟨hs0, hs1, rfl⟩ | ⟨hs0, hs1, rfl⟩
                      · go_wp2_with fail
                        go_quiet (fail)
                        go_wp2_with fail
                        go_roundw
                        case rel => exact ⟨k + 1, by omega, by go_num, by rw [HE1.out, if_neg HX.out]; rfl, by rw [HSN.out], bdrw hb1 _⟩
                        case measure => simp [intOf]; omega
                      · have g2 : decide (sv < 0) = false := decide_eq_false (by omega)
                        go_wp2_with fail
                        go_quiet (fail)
                        go_wp2_with fail
                        go_roundw
                        case rel => exact ⟨k + 1, by omega, by go_num, by rw [HE1.out, if_neg HX.out]; rfl, by rw [HSN.out], bdrw hb1 _⟩
                        case measure => simp [intOf]; omega
                      · have g2 : decide (sn < 0) = false := decide_eq_false (by omega)
                        have g3 : decide (r.delay < sn) = false := decide_eq_false (by omega)
                        go_wp2_with fail
                        go_quiet (fail)
                        go_wp2_with fail
                        go_roundw
                        case rel => exact ⟨k + 1, by omega, by go_num, by rw [HE1.out, if_neg HX.out]; rfl, by rw [HSN.out], bdrw hb1 _⟩
                        case measure => simp [intOf]; omega
            · have HE1 : Hid (pickTo l rs E now (k + 1) = pickTo l rs E now k) := by
                show _ = _
                have hw : waitsB E rs now k = false := by unfold waitsB; rw [decide_eq_false (by omega)]; rfl
                rw [pickTo, hw]
                rcases pickTo l rs E now k with _ | j <;> simp
              have HE2 : Hid (soonA rs E (k + 1) = soonA rs E k) := by
                show _ = _
                rw [soonA, if_neg (by omega)]
              rw [doneV_pos (show ¬ E k < 0 by omega)] at ec1
              clear ec
              generalize E k = ek at *
              go_wp2_with fail
              go_roundw
              case rel => exact ⟨k + 1, by omega, by go_num, by rw [HE1.out], by rw [HE2.out], hb1⟩
              case measure => simp [intOf]; omega
          · obtain rfl : k = rs.length := by omega
            have hgl := hOi.lt
            have hu1 : ∃ u1, u = u1 + 1 := ⟨u - 1, by omega⟩
            have hex : ∃ q, q < rs.length ∧ E q < 0 := by
              have h0 : ∀ n, 0 < cntN E n → ∃ q, q < n ∧ E q < 0 := fun n => by
                induction n with
                | zero => intro h; simp [cntN] at h
                | succ n ih =>
                  intro h
                  rw [cntN] at h
                  by_cases h1 : E n < 0
                  · exact ⟨n, by omega, h1⟩
                  · rw [if_neg h1] at h
                    obtain ⟨q, hq, hE⟩ := ih (by omega)
                    exact ⟨q, by omega, hE⟩
              exact h0 _ (by rw [HU.out]; omega)
            rcases hp : pickTo l rs E now rs.length with _ | m
            · have HN : Hid (nextV none = -1) := rfl
              generalize nextV none = nv at *
              obtain rfl : nv = -1 := HN.out
              rw [soonA_eq hp]
              rcases hs : soonTo rs E now rs.length with _ | s0
              · exfalso
                obtain ⟨q, hq, hE⟩ := hex
                have h1 := pickTo_none hp q hq
                have h2 := soonTo_none hs q hq
                unfold waitsB at h1
                unfold laterB at h2
                rw [decide_eq_true hE, Bool.true_and] at h1 h2
                have h3 := of_decide_eq_false h1
                have h4 := of_decide_eq_false h2
                omega
              · obtain ⟨j, hj, hlj, hdj⟩ := soonTo_some hs
                have hs0 : 0 ≤ s0 ∧ s0 ≤ 1000000 := by
                  have := HR.out j _ (List.getElem?_eq_getElem (show j < rs.length by omega))
                  rw [← hdj, relAt_of (List.getElem?_eq_getElem (show j < rs.length by omega))]
                  omega
                have HN2 : Hid (soonV (some s0) = s0) := rfl
                have HPL : Hid (playGo l rs u s0 E = playS l rs) := by
                  show _ = _
                  obtain ⟨u1, rfl⟩ := hu1
                  rw [← HP.out, playGo_wait hp hs]
                have HMU := Lib.hid (muP_wait hp hs)
                have ei1 : IntKind.i64.wrap ((i : Int) - 1) = (i : Int) - 1 := IntWalk.i64_in _ (by omega)
                generalize soonV (some s0) = sv at *
                obtain rfl : sv = s0 := HN2.out
                clear hp hs hj hlj hdj hu1 hex
                go_wp2_with fail
                go_roundw
                case rel => exact ⟨i, u, sv, E, rfl, by go_num, hiu, HPL, HU, H1, by omega, hOi, hbb⟩
                case measure =>
                  simp only [intOf]
                  rw [muP_sign (done_sign hOi H1.out), muP_sign (done_sign hO H1.out)]
                  exact HMU.out
            · obtain ⟨hil, hiw⟩ := pickTo_some hp
              have hE : E m < 0 := by unfold waitsB at hiw; rw [Bool.and_eq_true] at hiw; exact of_decide_eq_true hiw.1
              obtain ⟨r, rb, ro, hr, rfl, hrb, c0, c1⟩ := hGi.at_ hil
              have hrr := HR.out m r hr
              have HRK := Lib.hid (relAt_of hr)
              clear hr c1 hiw hex
              obtain ⟨f, fb, fo, hf, rfl, hfb, d0, _, _, _, _⟩ := hAi.at_ (k := r.rate.toNat) (by omega)
              have hfo := HF.out _ f hf
              have hsz1 := hfo.1
              have HSZ : Hid (sizeOf_ l (relAt rs m) = f.size) := by
                show _ = _
                unfold sizeOf_
                rw [HRK.out, List.getD_eq_getElem?_getD, hf]; rfl
              obtain ⟨u1, rfl⟩ := hu1
              have HPL : Hid (playGo l rs u1 (now + f.size) (updE E m (now + f.size)) = playS l rs) := by
                show _ = _
                rw [← HP.out, playGo_some hp, HSZ.out]
              have HMU : Hid (muP l rs (updE E m (now + f.size)) (now + f.size) < muP l rs E now) := muP_sent hil hE (by omega)
              have HCU : Hid (cntN (updE E m (now + f.size)) rs.length = u1) := by
                show _ = _
                have h1 := cntN_upd (x := now + f.size) (by omega) hE rs.length
                rw [if_pos hil, HU.out] at h1
                omega
              have H1' : Hid (∀ k, k < rs.length → updE E m (now + f.size) k < 0 ∨ 1 ≤ updE E m (now + f.size) k) := fun k hk => by
                unfold updE
                by_cases e : k = m
                · rw [if_pos e]; omega
                · rw [if_neg e]; exact H1.out k hk
              have HN : Hid (nextV (some m) = (m : Int)) := rfl
              generalize nextV (some m) = nv at *
              obtain rfl : nv = (m : Int) := HN.out
              have et : IntKind.i64.wrap (now + f.size) = now + f.size := IntWalk.i64_in _ (by omega)
              have gf := hOi.frozen m
              have gc := hOi.cell hil
              have hii : (0 : Int) ≤ (m : Int) := by omega
              have hj0 : decide ((m : Int) < 0) = false := decide_eq_false (by omega)
              have HX : Hid (OwnF (wr.setCell ⟨g, m, none⟩ (.int .i64 (now + f.size))) g 3 rs.length (fun k => .int .i64 (doneV (updE E m (now + f.size)) k))) := (hOi.set m (.int .i64 (now + f.size))).congr fun k _ => by
                unfold doneV updE
                by_cases e : k = m
                · rw [if_pos e, if_pos e, if_neg (show ¬ now + f.size < 0 by omega)]
                · rw [if_neg e, if_neg e]
              clear hp hf hfo hE
              go_wp2_with fail
              go_roundw
              case rel => exact ⟨i + 1, u1, now + f.size, updE E m (now + f.size), rfl, by go_num, by omega, HPL, HCU, H1', by omega, HX.out, hbb.setCell (p := ⟨g, m, none⟩) hgw _⟩
              case measure =>
                simp only [intOf]
                rw [muP_sign (done_sign HX.out H1'.out), muP_sign (done_sign hO H1.out)]
                exact HMU.out
      · obtain rfl : i = rs.length := by omega
        obtain rfl : u = 0 := by omega
        have HZ : Hid (E = playS l rs) := by show _ = _; rw [← HP.out]; rfl
        have HPN : Hid (∀ k, k < rs.length → doneV E k = E k) := fun k hk => by
          refine doneV_pos fun hE => ?_
          have := cntN_pos hk hE
          rw [HU.out] at this
          omega
        go_wp2_with fail
        go_ret2
        refine ⟨hbw, some ⟨g, 0, none⟩, rs.length, ?_, ?_, ?_⟩
        · rw [HE.out, List.length_map, List.length_range]; rfl
        · rw [HE.out, List.length_map, List.length_range]; exact Nat.le_refl _
        · rw [HE.out, ← HZ.out]
          exact OwnF.listI (hO.congr fun k hk => by rw [HPN.out k hk]) (by omega)
  · have HE := Lib.hid (show playL l rs = [] by unfold playL; rw [if_neg hz])
    obtain ⟨c, hc⟩ : ∃ c, relS l rs = c := ⟨_, rfl⟩
    have hC := rcrel_any A cap l G gcap rs w h hG hm hc
    rw [hc] at hz ⊢
    have hcs : c = 40 ∨ c = 2 ∨ c = 1 := by
      have h0 := hc
      unfold relS at h0
      by_cases h1 : framesB l = false
      · rw [if_pos h1] at h0; omega
      · rw [if_neg h1] at h0
        by_cases h2 : 500 < rs.length
        · rw [if_pos h2] at h0; omega
        · rw [if_neg h2] at h0
          by_cases h3 : relsB l.length rs = true
          · rw [if_pos h3] at h0; omega
          · rw [if_neg h3] at h0; omega
    have HC := Lib.hid hC
    clear hC hc hm hz
    rcases hcs with rfl | rfl | rfl
    all_goals
      go_enter Try.func38, Try.ntmps38
      go_wp2_with (go_at_call 80; refine HC.out.mono ?_; rintro e w1 ⟨rfl, hb1⟩)
      go_ret2
      exact RetLE.err HE.out rfl hb1
end Go.Proofs.Ytlbbhlkbhegegaa
