/- Walks: ignitionref04.response. -/
import Derived.Test.YtlbbhlkbhegegaaR9
namespace Go.Proofs.Ytlbbhlkbhegegaa
open Go.RowKit

theorem rbusy_start {l : List MFrame} {i : Nat} {own : MFrame} {b : Int} (hF : ∀ (k : Nat) (f : MFrame), l[k]? = some f → FOk f) (hi : l[i]? = some own) (hil : i < l.length) (hB : 0 ≤ b) : 1 ≤ rbusyS l b own 1 := by
  have key : ∀ k, k ≤ l.length → (if i < k then 1 else 0) ≤ loadTo l (leB l own.rank) (manyUp 1) k := by
    intro k
    induction k with
    | zero => intro _; simp [loadTo]
    | succ k ih =>
      intro hk
      have h1 := ih (by omega)
      have hf : l[k]? = some l[k] := List.getElem?_eq_getElem (by omega)
      have hfo := hF k _ hf
      have h2 : 1 ≤ manyUp 1 l[k] := by
        unfold manyUp
        exact (Int.le_ediv_iff_mul_le (by have := hfo.2.1.1; omega)).2 (by have := hfo.2.2.2.1.1; omega)
      have h3 : 1 * 1 ≤ manyUp 1 l[k] * l[k].size := Int.mul_le_mul h2 hfo.1.1 (by omega) (by omega)
      rw [loadTo_succ hf, leB_of hf]
      by_cases e : k = i
      · subst e
        rw [hi] at hf
        injection hf with hf
        rw [← hf] at h3 ⊢
        rw [if_pos (by omega), decide_eq_true (Int.le_refl _), if_pos rfl]
        rw [if_neg (by omega)] at h1
        omega
      · by_cases e2 : i < k
        · rw [if_pos (by omega)]
          rw [if_pos e2] at h1
          split <;> omega
        · rw [if_neg (by omega)]
          rw [if_neg e2] at h1
          split <;> omega
  have h1 := key l.length (Nat.le_refl _)
  rw [if_pos hil] at h1
  unfold rbusyS
  omega
theorem rbusy_mono {l : List MFrame} {own : MFrame} {b x y : Int} (hF : ∀ (k : Nat) (f : MFrame), l[k]? = some f → FOk f) (h : x ≤ y) : rbusyS l b own x ≤ rbusyS l b own y := by
  unfold rbusyS
  have h1 := loadTo_mono (l := l) (ab := leB l own.rank) (F := manyUp x) (G := manyUp y) (fun k f hf => ⟨manyUp_mono (hF k f hf) h, by have := (hF k f hf).1.1; omega⟩) l.length (Nat.le_refl _)
  omega
/-- what the reference's response answers, of any frames -/
def rrespZ (l : List MFrame) (i : Nat) : Int :=
  let own := l.getD i ⟨0, 0, 0, 0, 0⟩
  (match settleS (rbusyS l (rblockTo l own.rank l.length) own) 1000002 1 with
      | none => none
      | some busy => longTo l (higherB l own.rank) (rblockTo l own.rank l.length) own ((busy + own.jitter + own.every - 1) / own.every).toNat).getD (-1)
theorem rrespZ_of {l : List MFrame} {i : Nat} {own : MFrame} (hi : l[i]? = some own) : rrespZ l i =
    (match settleS (rbusyS l (rblockTo l own.rank l.length) own) 1000002 1 with
      | none => none
      | some busy => longTo l (higherB l own.rank) (rblockTo l own.rank l.length) own ((busy + own.jitter + own.every - 1) / own.every).toNat).getD (-1) := by
  have e : l.getD i ⟨0, 0, 0, 0, 0⟩ = own := by rw [List.getD_eq_getElem?_getD, hi]; rfl
  simp only [rrespZ, e]
theorem rrespZ_eq {l : List MFrame} {i : Nat} (h : framesB l = true) (hil : i < l.length) : rrespZ l i = respZ l i := by
  have hi : l[i]? = some l[i] := List.getElem?_eq_getElem hil
  rw [rrespZ_of hi, respZ_of h hi hil]
  rfl
set_option maxRecDepth 100000 in
set_option maxHeartbeats 4000000 in
theorem rresponse_gen (A : Option Addr) (cap : Nat) (l : List MFrame) (i : Nat) (own : MFrame) (w : World) (h : FramesA w w.heap.size A l) (hF : ∀ (k : Nat) (f : MFrame), l[k]? = some f → FOk f) (hl : l.length ≤ 40) (hi : l[i]? = some own) (hil : i < l.length) {r : Int} (hr : rrespZ l i = r) :
    Calls Try.prog 68 #[.slice A l.length cap, .int .i64 i] w fun e w' => e = .returned (.int .i64 r) ∧ Below w.heap.size w w' := by
  have HF := Lib.hid hF
  have HO := Lib.hid (hF i own hi)
  have HI := Lib.hid hi
  have HR : Hid (r = _) := hr.symm.trans (rrespZ_of hi)
  clear hi hr
  go_enter Try.func68, Try.ntmps68
  go_wp2_with fail
  go_loopw [5, 6] (fun s v wr => ∃ k : Nat, k ≤ l.length ∧ v = .int .i64 k ∧ s = .int .i64 (rblockTo l own.rank k) ∧ Below w.heap.size w wr) (fun _ v _ => l.length - (intOf v).toNat)
  case atStart => exact ⟨0, Nat.zero_le _, rfl, rfl, Below.refl _ _⟩
  case round =>
    obtain ⟨k, hk, rfl, rfl, hbw⟩ := hrel
    by_cases hlt : k < l.length
    · clear hF
      obtain ⟨f, bb, off, hf, rfl, hbb', c0, c1, c2, c4, d4⟩ := (h.keep hbw).two hlt HI.out hil
      have hbd := rblock_bd (r := own.rank) HF.out k hk
      have HSU := Lib.hid (rblockTo_succ (r := own.rank) hf)
      have hsize := (HF.out k f hf).1
      have HFf := Lib.hid hf
      clear hf
      generalize rblockTo l own.rank k = S at *
      by_cases hle : own.rank < f.rank
      · have HX := Lib.hid hle
        go_wp2_with fail
        go_quiet (fail)
        have hbq := bdrew hbw nq
        generalize wr.drewN nq = w2 at *
        clear c0 c1 c2 c4 d4
        obtain ⟨g, b2, off2, hg, he, hbb2, c0, c1, c2, c4, d4⟩ := (h.keep hbq).two hlt HI.out hil
        rw [HFf.out] at hg
        injection hg with hg
        injection he with he
        injection he with he1 he2
        subst hg
        subst he1
        subst he2
        clear c4 d4
        go_wp2_with fail
        go_roundw
        case rel => exact ⟨k + 1, by omega, by go_num, int_c (by rw [HSU.out, if_pos HX.out]; split <;> omega), hbq⟩
        case measure => simp [intOf]; omega
      · have HX : Hid (¬ own.rank < f.rank) := hle
        have hgt : f.rank ≤ own.rank := by omega
        go_wp2_with fail
        go_quiet (fail)
        go_wp2_with fail
        go_roundw
        case rel => exact ⟨k + 1, by omega, by go_num, int_c (by rw [HSU.out, if_neg (by have := HX.out; omega)]), bdrew hbw _⟩
        case measure => simp [intOf]; omega
    · obtain rfl : k = l.length := by omega
      have hBd := rblock_bd (r := own.rank) HF.out l.length (Nat.le_refl _)
      have hstart := rbusy_start HF.out HI.out hil hBd.1
      have hst0 := rbusy_start (b := rblockTo l own.rank l.length) HF.out HI.out hil hBd.1
      have HM : Hid (∀ x y, x ≤ y → rbusyS l (rblockTo l own.rank l.length) own x ≤ rbusyS l (rblockTo l own.rank l.length) own y) := fun x y h => rbusy_mono HF.out h
      have HWM : Hid (∀ (q x y : Int), x ≤ y → waitS l (higherB l own.rank) (rblockTo l own.rank l.length) own q x ≤ waitS l (higherB l own.rank) (rblockTo l own.rank l.length) own q y) := fun q x y h => waitS_mono HF.out h
      have HLOW : Hid (∀ (q y : Int), 0 ≤ y → rblockTo l own.rank l.length + q * own.size ≤ waitS l (higherB l own.rank) (rblockTo l own.rank l.length) own q y) := fun q y hy => by
        have := loadTo_nn (ab := higherB l own.rank) HF.out hy l.length (Nat.le_refl _)
        unfold waitS
        omega
      have HB : Hid (∀ t x w1, Below w.heap.size w w1 → 0 ≤ t → t ≤ 1000000 → rbusyS l (rblockTo l own.rank l.length) own t = x → Calls Try.prog 102 #[.slice A l.length cap, .int .i64 i, .int .i64 (rblockTo l own.rank l.length), .int .i64 t] w1 fun e w' => e = .returned (.int .i64 x) ∧ Below w1.heap.size w1 w') :=
        fun t x w1 hb h0 h1 hx => rbusy_any A cap l i own _ t w1 ((h.keep hb).more hb.size) HF.out hl HI.out hil (by omega) (by omega) hx
      have HWT : Hid (∀ (q t x : Int) w1, Below w.heap.size w w1 → 0 ≤ q → q ≤ 10000000 → 0 ≤ t → t ≤ 1000000 → waitS l (higherB l own.rank) (rblockTo l own.rank l.length) own q t = x → Calls Try.prog 103 #[.slice A l.length cap, .int .i64 i, .int .i64 (rblockTo l own.rank l.length), .int .i64 q, .int .i64 t] w1 fun e w' => e = .returned (.int .i64 x) ∧ Below w1.heap.size w1 w') :=
        fun q t x w1 hb h0 h1 h2 h3 hx => rwait_any A cap l i own _ q t w1 ((h.keep hb).more hb.size) HF.out hl HI.out hil (by omega) (by omega) (by omega) hx
      generalize rblockTo l own.rank l.length = bl at *
      clear hst0 hF
      go_wp2_with fail
      obtain ⟨wo, rfl⟩ : ∃ wo : World, wo = wr := ⟨_, rfl⟩
      have hstart' := Lib.hid hstart
      clear hstart
      go_loopw [4, 7] (fun v4 v wr => v4 = .int .i64 0 ∧ ∃ (t : Int) (m : Nat), v = .int .i64 t ∧ 1 ≤ t ∧ t ≤ 1000000 ∧ Hid (t ≤ rbusyS l bl own t ∧ (1000001 - t).toNat ≤ m ∧ settleS (rbusyS l bl own) (m + 1) t = settleS (rbusyS l bl own) 1000002 1) ∧ Below w.heap.size w wr) (fun _ v _ => (1000001 - intOf v).toNat)
      case atStart => exact ⟨rfl, 1, 1000001, rfl, by omega, by omega, ⟨hstart'.out, by omega, rfl⟩, hbw⟩
      case round =>
        clear hbw hstart'
        obtain ⟨rfl, t, m, rfl, ht1, ht2, HT, hbw⟩ := hrel
        obtain ⟨m, rfl⟩ : ∃ m0, m = m0 + 1 := ⟨m - 1, by have := HT.out.2.1; omega⟩
        by_cases he : rbusyS l bl own t = t
        · have HS : Hid (settleS (rbusyS l bl own) 1000002 1 = some t) := by show _ = _; rw [← HT.out.2.2, settle_hit ht2 he]
          have HE := Lib.hid he
          have htt : (t != t) = false := by simp
          clear he HM
          go_wp2_with fail
          refine (HB.out t t _ hbw (by omega) (by omega) HE.out).mono ?_
          rintro e w3 ⟨rfl, hb3⟩
          have hbw3 := hbw.trans (hb3.mono hbw.size)
          clear hbw hb3 htt HB
          go_wp2_with fail
          have hoj := HO.out.2.2.2.1
          have hoe := HO.out.2.1
          have hos := HO.out.1
          have hQ : 0 ≤ (t + own.jitter + own.every - 1) / own.every ∧ (t + own.jitter + own.every - 1) / own.every ≤ 1300000 := ⟨Int.ediv_nonneg (by omega) (by omega), by have := Int.ediv_le_self (a := t + own.jitter + own.every - 1) own.every (by omega); omega⟩
          obtain ⟨Q, hQe⟩ : ∃ Q : Nat, (t + own.jitter + own.every - 1) / own.every = (Q : Int) := ⟨((t + own.jitter + own.every - 1) / own.every).toNat, by omega⟩
          have HR2 : Hid (r = (longTo l (higherB l own.rank) bl own Q).getD (-1)) := by show _ = _; rw [HR.out, HS.out]; show (longTo l (higherB l own.rank) bl own ((t + own.jitter + own.every - 1) / own.every).toNat).getD (-1) = _; rw [hQe]; rfl
          rw [hQe] at hQ
          have HUP : Hid (∀ w1, Calls Try.prog 62 #[.int .i64 (t + own.jitter), .int .i64 own.every] w1 fun e w' => e = .returned (.int .i64 (Q : Int)) ∧ w1 = w') := fun w1 => rup_q _ _ _ _ (by omega) (by omega) (by omega) (by omega) hQe
          clear HR HS HT HE hQe
          obtain ⟨wo, rfl⟩ : ∃ wo : World, wo = wr := ⟨_, rfl⟩
          go_loopw [4, 8, 9] (fun v4 s v wr => v4 = .int .i64 0 ∧ ∃ (q : Nat) (x : Int), q ≤ Q ∧ v = .int .i64 q ∧ s = .int .i64 x ∧ 0 ≤ x ∧ x ≤ 2000000 ∧ Hid (longTo l (higherB l own.rank) bl own q = some x) ∧ Below w.heap.size w wr) (fun _ _ v _ => Q - (intOf v).toNat)
          case atStart => exact ⟨rfl, 0, 0, Nat.zero_le _, rfl, rfl, by omega, by omega, rfl, hbw3⟩
          case round =>
            clear hbw3
            obtain ⟨rfl, q, x, hq, rfl, rfl, hx0, hx1, HLO, hbw⟩ := hrel
            obtain ⟨ob, oo, hoA, hob, o0, o1, o2, o3, o4⟩ := (h.keep hbw).sizeAt HI.out hil
            have HOA := Lib.hid hoA
            subst hoA
            clear o3 o4 o0
            have e0 : IntKind.i64.wrap (t + own.jitter) = t + own.jitter := IntWalk.i64_in _ (by omega)
            go_wp2_with fail
            go_quiet ((go_at_call 62; exact quiet_w (HUP.out _)))
            have hbq := bdrew hbw nq
            generalize wr.drewN nq = w5 at *
            clear e0 o1 o2 hbw
            by_cases hlq : q < Q
            · obtain ⟨ob2, oo2, hoA, hob2, o0, o1, o2, o3, o4⟩ := (h.keep hbq).sizeAt HI.out hil
              injection hoA with hoA
              injection hoA with ho1 ho2
              subst ho1
              subst ho2
              have hmul : 0 ≤ (q : Int) * own.size ∧ (q : Int) * own.size ≤ 1300000000 := by
                constructor
                · exact Int.mul_nonneg (by omega) (by omega)
                · have := Int.mul_le_mul (show (q : Int) ≤ 1300000 by omega) hos.2 (by omega) (by omega)
                  omega
              have hlo0 := HLOW.out q (bl + q * own.size) (by omega)
              have HLQ := Lib.hid (HLOW.out q)
              clear o1 o2 o3 o4
              go_wp2_with fail
              clear o0
              have hlo' := Lib.hid hlo0
              clear hlo0
              obtain ⟨wo2, rfl⟩ : ∃ wo2 : World, wo2 = wr := ⟨_, rfl⟩
              go_loopw [10] (fun v wr => ∃ (n : Int) (m : Nat), v = .int .i64 n ∧ 0 ≤ n ∧ Hid (n ≤ waitS l (higherB l own.rank) bl own q n ∧ (1000001 - n).toNat ≤ m ∧ settleS (waitS l (higherB l own.rank) bl own q) (m + 1) n = settleS (waitS l (higherB l own.rank) bl own q) 1000002 (bl + q * own.size)) ∧ Below w.heap.size w wr) (fun v _ => (1000001 - intOf v).toNat)
              case atStart => exact ⟨bl + q * own.size, 1000001, rfl, by omega, ⟨hlo'.out, by omega, rfl⟩, hbq⟩
              case round =>
                clear hbq hlo'
                obtain ⟨n, m, rfl, hn, HN, hbw⟩ := hrel
                by_cases hbig : n ≤ 1000000
                · obtain ⟨m, rfl⟩ : ∃ m0, m = m0 + 1 := ⟨m - 1, by have := HN.out.2.1; omega⟩
                  by_cases he : waitS l (higherB l own.rank) bl own q n = n
                  · have HS2 : Hid (settleS (waitS l (higherB l own.rank) bl own q) 1000002 (bl + q * own.size) = some n) := by show _ = _; rw [← HN.out.2.2, settle_hit hbig he]
                    have HE := Lib.hid he
                    have hnn : (n != n) = false := by simp
                    clear he
                    go_wp2_with fail
                    refine (HWT.out q n n _ hbw (by omega) (by omega) (by omega) (by omega) HE.out).mono ?_
                    rintro e w6 ⟨rfl, hb6⟩
                    have hbw6 := hbw.trans (hb6.mono hbw.size)
                    clear hbw hb6 hnn
                    go_wp2_with fail
                    obtain ⟨ob3, oo3, hoA, hob3, o0, o1, o2, o3, o4⟩ := (h.keep hbw6).sizeAt HI.out hil
                    injection hoA with hoA
                    injection hoA with ho1 ho2
                    subst ho1
                    subst ho2
                    clear o3 o4
                    have hmul2 : 0 ≤ (q : Int) * own.every ∧ (q : Int) * own.every ≤ 130000000000 := by
                      constructor
                      · exact Int.mul_nonneg (by omega) (by omega)
                      · have := Int.mul_le_mul (show (q : Int) ≤ 1300000 by omega) hoe.2 (by omega) (by omega)
                        omega
                    have e1 : IntKind.i64.wrap (n + own.size) = n + own.size := IntWalk.i64_in _ (by omega)
                    have e2 : IntKind.i64.wrap (n + own.size + own.jitter) = n + own.size + own.jitter := IntWalk.i64_in _ (by omega)
                    have e3 : IntKind.i64.wrap (q * own.every) = q * own.every := IntWalk.i64_in _ (by omega)
                    have e4 : IntKind.i64.wrap (n + own.size + own.jitter - q * own.every) = n + own.size + own.jitter - q * own.every := IntWalk.i64_in _ (by omega)
                    go_quiet (fail)
                    clear e1 e2 e3 e4
                    go_wp2_with fail
                    go_roundw
                    case rel =>
                      refine ⟨rfl, q + 1, max x (n + own.size + own.jitter - q * own.every), by omega, by go_num, int_c ?_, by omega, by omega, ?_, bdrew hbw6 _⟩
                      · split <;> omega
                      · show _ = _
                        rw [longTo_yes HLO.out HS2.out]
                    case measure => simp [intOf]; omega
                  · generalize hx : waitS l (higherB l own.rank) bl own q n = y at he
                    have HX := Lib.hid hx
                    have hxt : n < y := by
                      have := HN.out.1
                      rw [hx] at this
                      omega
                    have hne : (y != n) = true := by rw [bne_iff_ne]; omega
                    clear hx he
                    go_wp2_with fail
                    refine (HWT.out q n y _ hbw (by omega) (by omega) (by omega) (by omega) HX.out).mono ?_
                    rintro e w6 ⟨rfl, hb6⟩
                    have hbw6 := hbw.trans (hb6.mono hbw.size)
                    clear hbw hb6
                    go_wp2_with fail
                    refine (HWT.out q n y _ hbw6 (by omega) (by omega) (by omega) (by omega) HX.out).mono ?_
                    rintro e w7 ⟨rfl, hb7⟩
                    have hbw7 := hbw6.trans (hb7.mono hbw6.size)
                    clear hbw6 hb7
                    go_wp2_with fail
                    go_roundw
                    case rel =>
                      refine ⟨y, m, rfl, by omega, ⟨?_, by have := HN.out.2.1; omega, ?_⟩, hbw7⟩
                      · have := HWM.out q n y (by omega)
                        rw [HX.out] at this
                        exact this
                      · rw [← HN.out.2.2, settle_next (m := m + 1) hbig (by rw [HX.out]; omega), HX.out]
                    case measure => simp [intOf]; omega
                · have HS2 : Hid (settleS (waitS l (higherB l own.rank) bl own q) 1000002 (bl + q * own.size) = none) := by show _ = _; rw [← HN.out.2.2, settle_out hbig]
                  go_wp2_with fail
                  go_ret
                  obtain ⟨d, rfl⟩ : ∃ d, Q = q + 1 + d := ⟨Q - (q + 1), by omega⟩
                  exact ⟨ret_i (by rw [HR2.out, longTo_none (longTo_no HLO.out HS2.out)]; rfl), hbw⟩
            · obtain rfl : q = Q := by omega
              go_wp2_with fail
              go_ret
              exact ⟨ret_i (by rw [HR2.out, HLO.out]; rfl), hbq⟩
        · generalize hx : rbusyS l bl own t = x at he
          have HX := Lib.hid hx
          have hxt : t < x := by
            have := HT.out.1
            rw [hx] at this
            omega
          have hne : (x != t) = true := by rw [bne_iff_ne]; omega
          clear hx he
          go_wp2_with fail
          refine (HB.out t x _ hbw (by omega) (by omega) HX.out).mono ?_
          rintro e w3 ⟨rfl, hb3⟩
          have hbw3 := hbw.trans (hb3.mono hbw.size)
          clear hbw hb3
          go_wp2_with fail
          refine (HB.out t x _ hbw3 (by omega) (by omega) HX.out).mono ?_
          rintro e w4 ⟨rfl, hb4⟩
          have hbw4 := hbw3.trans (hb4.mono hbw3.size)
          clear hbw3 hb4
          have HS : Hid (settleS (rbusyS l bl own) (m + 1) x = settleS (rbusyS l bl own) 1000002 1) := by show _ = _; rw [← HT.out.2.2, settle_next (m := m + 1) ht2 (by rw [HX.out]; omega), HX.out]
          by_cases hbig : 1000000 < x
          · go_wp2_with fail
            go_ret
            exact ⟨ret_i (by rw [HR.out, ← HS.out, settle_out (by omega)]; rfl), hbw4⟩
          · go_wp2_with fail
            go_roundw
            case rel =>
              refine ⟨rfl, x, m, rfl, by omega, by omega, ⟨?_, by have := HT.out.2.1; omega, HS.out⟩, hbw4⟩
              have := HM.out t x (by omega)
              rw [HX.out] at this
              exact this
            case measure => simp [intOf]; omega
theorem rresponse_any (A : Option Addr) (cap : Nat) (l : List MFrame) (i : Nat) (own : MFrame) (w : World) (h : FramesA w w.heap.size A l) (hv : framesB l = true) (hi : l[i]? = some own) (hil : i < l.length) {r : Int} (hr : respZ l i = r) :
    Calls Try.prog 68 #[.slice A l.length cap, .int .i64 i] w fun e w' => e = .returned (.int .i64 r) ∧ Below w.heap.size w w' :=
  rresponse_gen A cap l i own w h (framesF hv) (framesB_parts hv).1 hi hil ((rrespZ_eq hv hil).trans hr)
end Go.Proofs.Ytlbbhlkbhegegaa
