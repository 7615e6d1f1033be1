/- Walk: the law DiagnoseLocked. Printed by lk2.py. -/
import Derived.Test.YtonpemikodajdaaDoorLk1
import Derived.Test.YtonpemikodajdaaDoorWk
import Derived.Deep.DeepCutAuto
namespace Go.Proofs.YtonpemikodajdaaDoor
open Go.RowKit

theorem OutR.below {w w' : World} {base B : Nat} {v : Value} {l : List (Int × Int)} (h : OutR w base v l) (hb : Below B w w') (hB : w.heap.size ≤ B) : OutR w' base v l := h.keep fun g _ hg => hb.block g (by omega)
theorem talk_acc {a : MAcc} {l : List MReq} (h : talkE a l = 0) : accB a = true ∧ l.length ≤ 200 ∧ timesG 0 l = true := by
  unfold talkE at h
  by_cases h1 : accB a = true
  · rw [if_pos h1] at h
    by_cases h2 : l.length > 200
    · rw [if_pos h2] at h; cases h
    · rw [if_neg h2] at h
      by_cases h3 : timesG 0 l = true
      · exact ⟨h1, by omega, h3⟩
      · rw [if_neg h3] at h; cases h
  · rw [if_neg h1] at h; cases h
set_option maxRecDepth 100000 in
set_option maxHeartbeats 8000000 in
theorem locked_any (a : MAcc) (A : Option Addr) (lc : Nat) (l : List MReq) (w : World) (h : ReqsA w w.heap.size A l) (hT : TabW w) :
    Calls Tryd.prog 13 #[accV a, .slice A l.length lc] w fun e w' => e = .returned (.bool true) ∧ Below w.heap.size w w' := by
  unfold accV
  have hb1 : Below w.heap.size w (w.alloc (.cells #[.int .i64 a.secret, .int .i64 a.tries, .int .i64 a.lock, .int .i64 a.idle] 70)) := (Below.refl _ _).alloc (Nat.le_refl _) _
  have hsz : (w.alloc (.cells #[.int .i64 a.secret, .int .i64 a.tries, .int .i64 a.lock, .int .i64 a.idle] 70)).heap.size = w.heap.size + 1 := by simp
  have hc : ∀ wx, Below (w.heap.size + 1) (w.alloc (.cells #[.int .i64 a.secret, .int .i64 a.tries, .int .i64 a.lock, .int .i64 a.idle] 70)) wx → wx.cell? ⟨w.heap.size, 0, none⟩ = some (.int .i64 a.secret) ∧ wx.cell? ⟨w.heap.size, 1, none⟩ = some (.int .i64 a.tries) ∧ wx.cell? ⟨w.heap.size, 2, none⟩ = some (.int .i64 a.lock) ∧ wx.cell? ⟨w.heap.size, 3, none⟩ = some (.int .i64 a.idle) := fun wx hb => by
    have hh : wx.heap[w.heap.size]? = some (.cells #[.int .i64 a.secret, .int .i64 a.tries, .int .i64 a.lock, .int .i64 a.idle] 70 (0, 0)) := (hb.block _ (by omega)).trans (heap_alloc_new w _)
    exact ⟨cell_of_row wx _ 0 _ 70 (0, 0) hh, cell_of_row wx _ 1 _ 70 (0, 0) hh, cell_of_row wx _ 2 _ 70 (0, 0) hh, cell_of_row wx _ 3 _ 70 (0, 0) hh⟩
  have HCS := Lib.hid hc
  obtain ⟨n0, n1, n2, n3⟩ := hc _ (Below.refl _ _)
  clear hc
  obtain ⟨E, hE⟩ : ∃ E, talkE a l = E := ⟨_, rfl⟩
  obtain ⟨RR, hRR⟩ : ∃ RR, RR = if E = 0 then runS a comp0 l else [] := ⟨_, rfl⟩
  have HTA : Hid (Calls Tryd.prog 45 #[.agg #[.int .i64 a.secret, .int .i64 a.tries, .int .i64 a.lock, .int .i64 a.idle], .slice A l.length lc] (w.alloc (.cells #[.int .i64 a.secret, .int .i64 a.tries, .int .i64 a.lock, .int .i64 a.idle] 70)) fun e w' => Below (w.alloc (.cells #[.int .i64 a.secret, .int .i64 a.tries, .int .i64 a.lock, .int .i64 a.idle] 70)).heap.size (w.alloc (.cells #[.int .i64 a.secret, .int .i64 a.tries, .int .i64 a.lock, .int .i64 a.idle] 70)) w' ∧ ∃ v, e = .returned (.tuple #[v, .int .i64 E]) ∧ OutR w' (w.alloc (.cells #[.int .i64 a.secret, .int .i64 a.tries, .int .i64 a.lock, .int .i64 a.idle] 70)).heap.size v RR) := by
    have h9 := talk_any a A lc l (w.alloc (.cells #[.int .i64 a.secret, .int .i64 a.tries, .int .i64 a.lock, .int .i64 a.idle] 70)) ((h.keep hb1).more hb1.size)
    unfold TalkPost at h9
    rw [hE, ← hRR] at h9
    exact h9
  have HTW := Lib.hid hT
  have hlen := h.1
  unfold maxLen at hlen
  by_cases h0 : E = 0
  rotate_left
  · have HRR := Lib.hid hRR
    have hEb : (E != 0) = true := by simpa using h0
    clear hE hRR hT h0
    go_enter Tryd.func13, Tryd.ntmps13
    go_wp2_with (first | (go_at_call 45; refine HTA.out.mono ?_; rintro e w2 ⟨hb2, v, rfl, _⟩; have HB2 := Lib.hid hb2; clear hb2) | (go_at_call 18; refine (works_any _ (HTW.out.keep (hb1.trans (HB2.out.mono (by omega))))).mono ?_; rintro e w7 ⟨rfl, hb7⟩))
    go_ret
    exact ⟨rfl, (hb1.trans (HB2.out.mono (by omega))).trans (hb7.mono (by have := HB2.out.size; omega))⟩
  · subst h0
    obtain ⟨hacc, hl200, htm⟩ := talk_acc hE
    have HACC := Lib.hid hacc
    have HTI := Lib.hid (timesG_all l 0 (Int.le_refl 0) htm)
    have HRR : Hid (RR = runS a comp0 l) := by show RR = _; rw [hRR, if_pos rfl]
    have hRl : RR.length = l.length := by rw [HRR.out, runS_len]
    have HRL := Lib.hid hRl
    have hab := acc_bounds hacc
    clear hE hRR hT hacc htm hRl
    go_enter Tryd.func13, Tryd.ntmps13
    go_wp2_with (first | (go_at_call 45; refine HTA.out.mono ?_; rintro e w2 ⟨hb2, v, rfl, hO⟩; have HO := Lib.hid hO; obtain ⟨Av, cv, hv, _⟩ := HO.out.lenV; rw [HRL.out] at hv; subst hv; have HB2 : Hid (Below (w.heap.size + 1) (w.alloc (.cells #[.int .i64 a.secret, .int .i64 a.tries, .int .i64 a.lock, .int .i64 a.idle] 70)) w2) := hb2.mono (by omega); clear hO hb2))
    clear n0 n1 n2 n3
    go_loopw [11, 7, 8, 9, 10] (fun vi v7 v8 v9 v10 wr => ∃ (k : Nat) (m : MLock), k ≤ l.length ∧ vi = .int .i64 k ∧ v7 = .bool m.op ∧ v8 = .int .i64 m.sd ∧ v9 = .int .i64 m.wr ∧ v10 = .int .i64 m.un ∧ Hid (LockI (compAt a comp0 l k) m) ∧ Hid (k = 0 → m.op = false) ∧ Hid (Below w2.heap.size w2 wr)) (fun vi _ _ _ _ _ => l.length - (intOf vi).toNat)
    case atStart => exact ⟨0, ⟨false, -1, 0, 0⟩, Nat.zero_le _, rfl, rfl, rfl, rfl, rfl, lock0, fun _ => rfl, Below.refl _ _⟩
    case round =>
      obtain ⟨k, m, hk, rfl, rfl, rfl, rfl, rfl, HI, HZ, HB⟩ := hrel
      have HB3 : Hid (Below (w.heap.size + 1) (w.alloc (.cells #[.int .i64 a.secret, .int .i64 a.tries, .int .i64 a.lock, .int .i64 a.idle] 70)) wr) := HB2.out.trans (HB.out.mono (by have := HB2.out.size; omega))
      by_cases hlt : k < l.length
      rotate_left
      · obtain rfl : k = l.length := by omega
        go_wp2_with (go_at_call 18; refine (works_any _ (HTW.out.keep (hb1.trans (HB3.out.mono (by omega))))).mono ?_; rintro e w7 ⟨rfl, hb7⟩)
        go_ret
        exact ⟨rfl, (hb1.trans (HB3.out.mono (by omega))).trans (hb7.mono (by have := HB3.out.size; omega))⟩
      · obtain ⟨r, b, off, ht, rfl, hblt, t0, t1, t2⟩ := (h.keep (hb1.trans (HB3.out.mono (by omega)))).at_ hlt
        obtain ⟨p, g, cap, hp, hv, hgb, hgl, c0, c1⟩ := (HO.out.below HB.out (Nat.le_refl _)).at_ (k := k) (by rw [HRL.out]; exact hlt)
        injection hv with hA1 hA3 hA2
        subst hA1
        clear hA3
        subst hA2
        have hrb := HTI.out k r ht
        have hck := compAt_ok (a := a) HTI.out k hk
        have hpx : p = (answerS a (compAt a comp0 l k) r).2 := by
          rw [HRR.out, runS_at a l comp0 k r ht] at hp
          injection hp with hp
          exact hp.symm
        have hgd : l.getD k dReq = r := by rw [List.getD_eq_getElem?_getD, ht]; rfl
        have hkn : compAt a comp0 l (k + 1) = (answerS a (compAt a comp0 l k) r).1 := by show (answerS a (compAt a comp0 l k) (l.getD k dReq)).1 = _; rw [hgd]
        obtain ⟨m', hP, hI'⟩ := lock_step (a := a) (r := r) HI.out hck.seed
        rw [compAt_last, ← hpx] at hP
        rw [← hkn] at hI'
        have hla := hck.last
        rw [compAt_last] at hla
        have hwr : 0 ≤ m.wr ∧ m.wr ≤ 200 := by rw [HI.out.wr]; have := hck.wrong; omega
        have hprev : ∀ j, k = j + 1 → wr.cell? ⟨b, off + j * 3, none⟩ = some (.int .i64 (lastAt l k)) := fun j hj => by
          obtain ⟨r', b', off', ht', hA', _, u0, _, _⟩ := (h.keep (hb1.trans (HB3.out.mono (by omega)))).at_ (show j < l.length by omega)
          injection hA' with hA'
          injection hA' with e1 e2
          subst e1; subst e2
          rw [hj]
          show wr.cell? ⟨b, off + j * 3, none⟩ = some (Value.int .i64 (l.getD j dReq).at_)
          rw [List.getD_eq_getElem?_getD, ht']
          exact u0
        generalize lastAt l k = la at *
        obtain ⟨x, y⟩ := p
        have HI2 := Lib.hid hI'
        have HHP := Lib.hid hprev
        obtain ⟨o1, ho1⟩ : ∃ o1, (lateL a m r la).op = o1 := ⟨_, rfl⟩
        have hm1 : lateL a m r la = ⟨o1, m.sd, m.wr, m.un⟩ := by
          rw [← ho1]
          unfold lateL
          split <;> rfl
        rw [hm1] at hP
        have hob : o1 = (m.op && !decide (0 < k ∧ a.idle < r.at_ - la)) := by
          rw [← ho1]
          unfold lateL
          by_cases q1 : a.idle < r.at_ - la
          · rw [if_pos q1]
            by_cases q2 : 0 < k
            · rw [decide_eq_true ⟨q2, q1⟩]; simp
            · rw [HZ.out (by omega)]; rfl
          · rw [if_neg q1, decide_eq_false (fun e => q1 e.2)]; simp
        obtain ⟨bb, hbb⟩ : ∃ z, decide (0 < k ∧ a.idle < r.at_ - la) = z := ⟨_, rfl⟩
        rw [hbb] at hob
        have HBB := Lib.hid hbb
        have HOB := Lib.hid hob
        have HP := Lib.hid hP
        obtain ⟨q0, q1, q2, q3⟩ := HCS.out wr HB3.out
        clear hprev hI' hP hob hbb hm1 ho1 hgd hkn hpx hck hp ht q0 q1 q2
        go_upto_region 12 with fail
        go_cut [53] (fun s53 wx => s53 = .bool bb ∧ ∃ n, wx = wr.drewN n)
        case first =>
          by_cases h1 : 0 < k
          · obtain ⟨j, hj⟩ : ∃ j, k = j + 1 := ⟨k - 1, by omega⟩
            have hpv := HHP.out j hj
            have k1 : decide (0 < k) = true := decide_eq_true h1
            have e1 : IntKind.i64.wrap ((k : Int) - 1) = (j : Int) := by rw [IntWalk.i64_in _ (by omega)]; omega
            have e2 : IntKind.i64.wrap (r.at_ - la) = r.at_ - la := IntWalk.i64_in _ (by omega)
            have hjl : j < l.length := by omega
            obtain ⟨z, hz⟩ : ∃ z, decide (a.idle < r.at_ - la) = z := ⟨_, rfl⟩
            have HB4 : Hid (bb = z) := by
              show bb = z
              rw [← HBB.out, ← hz]
              exact decide_eq_decide.2 ⟨fun h => h.2, fun h => ⟨h1, h⟩⟩
            clear hj
            go_quiet (fail)
            go_wp2_with fail
            go_meet
            exact ⟨by rw [HB4.out], _, rfl⟩
          · have k1 : decide (0 < k) = false := decide_eq_false h1
            have HB4 : Hid (bb = false) := by show bb = false; rw [← HBB.out]; exact decide_eq_false (fun h => h1 h.1)
            go_quiet (fail)
            go_wp2_with fail
            go_meet
            exact ⟨by rw [HB4.out], _, rfl⟩
        case rest =>
          obtain ⟨rfl, n, rfl⟩ := hcut
          go_upto_if 53 with fail
          go_cut [7] (fun s7 wx => s7 = .bool o1 ∧ wx = wr.drewN n)
          case first =>
            rcases bb
            · go_wp2_with fail
              go_meet
              exact ⟨by rw [HOB.out]; simp, rfl⟩
            · go_wp2_with fail
              go_meet
              exact ⟨by rw [HOB.out]; simp, rfl⟩
          case rest =>
            obtain ⟨rfl, rfl⟩ := hcut
            have HBn : Hid (Below w2.heap.size w2 (wr.drewN n)) := ⟨HB.out.os, HB.out.tape, HB.out.output, HB.out.size, HB.out.block⟩
            have u0 : (wr.drewN n).cell? ⟨b, off + k * 3, none⟩ = some (.int .i64 r.at_) := t0
            have u1 : (wr.drewN n).cell? ⟨b, off + k * 3 + 1, none⟩ = some (.int .i64 r.serv) := t1
            have u2 : (wr.drewN n).cell? ⟨b, off + k * 3 + 2, none⟩ = some (.int .i64 r.val) := t2
            have v0 : (wr.drewN n).cell? ⟨g, k * 2, none⟩ = some (.int .i64 x) := c0
            have v1 : (wr.drewN n).cell? ⟨g, k * 2 + 1, none⟩ = some (.int .i64 y) := c1
            have hgl2 : g < (wr.drewN n).heap.size := hgl
            clear t0 t1 t2 c0 c1 hgl hgb HB HB3 HHP HZ HI q3 HBB HOB
            generalize wr.drewN n = W at *
            have HB4 : Hid (Below w2.heap.size w2 (W.alloc (.cells #[.int .i64 r.at_, .int .i64 r.serv, .int .i64 r.val] 80))) := HBn.out.alloc HBn.out.size _
            have HB5 : Hid (Below (w.heap.size + 1) (w.alloc (.cells #[.int .i64 a.secret, .int .i64 a.tries, .int .i64 a.lock, .int .i64 a.idle] 70)) (W.alloc (.cells #[.int .i64 r.at_, .int .i64 r.serv, .int .i64 r.val] 80))) := HB2.out.trans (HB4.out.mono (by have := HB2.out.size; omega))
            have m0 := newcell W #[.int .i64 r.at_, .int .i64 r.serv, .int .i64 r.val] 80 0
            have m1 := newcell W #[.int .i64 r.at_, .int .i64 r.serv, .int .i64 r.val] 80 1
            have m2 := newcell W #[.int .i64 r.at_, .int .i64 r.serv, .int .i64 r.val] 80 2
            simp only [List.getElem?_toArray, List.getElem?_cons_succ, List.getElem?_cons_zero] at m0 m1 m2
            have x0 : (W.alloc (.cells #[.int .i64 r.at_, .int .i64 r.serv, .int .i64 r.val] 80)).cell? ⟨g, k * 2, none⟩ = some (.int .i64 x) := (acell _ _ _ _ hgl2).trans v0
            have x1 : (W.alloc (.cells #[.int .i64 r.at_, .int .i64 r.serv, .int .i64 r.val] 80)).cell? ⟨g, k * 2 + 1, none⟩ = some (.int .i64 y) := (acell _ _ _ _ hgl2).trans v1
            obtain ⟨a0, a1, a2, a3⟩ := HCS.out _ HB5.out
            clear v0 v1
            have hP := HP.out
            clear HP
            rcases hP with ⟨h1, h2, h3, rfl⟩ | ⟨h1, h2, h3, ho, rfl⟩ | ⟨h1, h2, h3, h4, rfl⟩ | ⟨hn, rfl⟩ | ⟨h1, h2, h3, rfl⟩ | ⟨h1, h2, h3, h4, h5, rfl⟩ | ⟨h1, h2, h3, h4, h5, h6, rfl⟩ | ⟨h1, h2, h3, h4, h5, h6, rfl⟩ | ⟨h1, h2, ho, hv2, rfl⟩
            · as_aux_lemma =>
                have HI3 : Hid (LockI (compAt a comp0 l (k + 1)) ⟨false, m.sd, m.wr, m.un⟩) := HI2.out
                have f_s1 : (r.serv == 1) = true := by rw [h1]; rfl
                have f_s2 : (r.serv == 2) = false := by rw [h1]; rfl
                have f_s3 : (r.serv == 3) = false := by rw [h1]; rfl
                have f_s4 : (r.serv == 4) = false := by rw [h1]; rfl
                have f_x0 : (x == 0) = true := by rw [show x = 0 from h2]; rfl
                have f_x2 : (x == 2) = false := by rw [show x = 0 from h2]; rfl
                have f_v0 : (r.val == 0) = true := by rw [h3]; rfl
                have f_v2 : (r.val == 2) = false := by rw [h3]; rfl
                clear h1 h2 h3
                go_wp2_with fail
                have HBB9 := Lib.hid HB4.out
                go_roundw
                case rel => exact ⟨k + 1, ⟨false, m.sd, m.wr, m.un⟩, by omega, by go_num, rfl, rfl, rfl, rfl, HI3.out, (fun e => by omega), HBB9.out⟩
                case measure => simp [intOf]; omega
            · as_aux_lemma =>
                have ho : o1 = true := ho
                subst ho
                have HI3 : Hid (LockI (compAt a comp0 l (k + 1)) ⟨true, m.sd, m.wr, m.un⟩) := HI2.out
                have f_s1 : (r.serv == 1) = true := by rw [h1]; rfl
                have f_s2 : (r.serv == 2) = false := by rw [h1]; rfl
                have f_s3 : (r.serv == 3) = false := by rw [h1]; rfl
                have f_s4 : (r.serv == 4) = false := by rw [h1]; rfl
                have f_x0 : (x == 0) = true := by rw [show x = 0 from h2]; rfl
                have f_x2 : (x == 2) = false := by rw [show x = 0 from h2]; rfl
                have f_v0 : (r.val == 0) = false := by rw [h3]; rfl
                have f_v2 : (r.val == 2) = true := by rw [h3]; rfl
                clear h1 h2 h3
                go_wp2_with fail
                have HBB9 := Lib.hid HB4.out
                go_roundw
                case rel => exact ⟨k + 1, ⟨true, m.sd, m.wr, m.un⟩, by omega, by go_num, rfl, rfl, rfl, rfl, HI3.out, (fun e => by omega), HBB9.out⟩
                case measure => simp [intOf]; omega
            · as_aux_lemma =>
                have HI3 : Hid (LockI (compAt a comp0 l (k + 1)) ⟨o1, m.sd, m.wr, m.un⟩) := HI2.out
                have f_s1 : (r.serv == 1) = true := by rw [h1]; rfl
                have f_s2 : (r.serv == 2) = false := by rw [h1]; rfl
                have f_s3 : (r.serv == 3) = false := by rw [h1]; rfl
                have f_s4 : (r.serv == 4) = false := by rw [h1]; rfl
                have f_x0 : (x == 0) = true := by rw [show x = 0 from h2]; rfl
                have f_x2 : (x == 2) = false := by rw [show x = 0 from h2]; rfl
                have f_v0 : (r.val == 0) = false := by simpa using h3
                have f_v2 : (r.val == 2) = false := by simpa using h4
                clear h1 h2 h3 h4
                go_wp2_with fail
                have HBB9 := Lib.hid HB4.out
                go_roundw
                case rel => exact ⟨k + 1, ⟨o1, m.sd, m.wr, m.un⟩, by omega, by go_num, rfl, rfl, rfl, rfl, HI3.out, (fun e => by omega), HBB9.out⟩
                case measure => simp [intOf]; omega
            · as_aux_lemma =>
                have HI3 : Hid (LockI (compAt a comp0 l (k + 1)) ⟨o1, m.sd, m.wr, m.un⟩) := HI2.out
                have HBB9 := Lib.hid HB4.out
                rcases hn with ⟨hs, hx⟩ | ⟨h1, hx, hy⟩ | ⟨g1, g2, g3, g4⟩
                · have f_x0 : (x == 0) = false := by simpa using hx
                  clear hx
                  rcases hs with h1 | h1 | h1
                  · have f_s1 : (r.serv == 1) = true := by rw [h1]; rfl
                    have f_s2 : (r.serv == 2) = false := by rw [h1]; rfl
                    have f_s3 : (r.serv == 3) = false := by rw [h1]; rfl
                    have f_s4 : (r.serv == 4) = false := by rw [h1]; rfl
                    clear h1
                    rcases f_v2 : (r.val == 2)
                    all_goals
                      go_wp2_with fail
                      go_roundw
                      case rel => exact ⟨k + 1, ⟨o1, m.sd, m.wr, m.un⟩, by omega, by go_num, rfl, rfl, rfl, rfl, HI3.out, (fun e => by omega), HBB9.out⟩
                      case measure => simp [intOf]; omega
                  · have f_s1 : (r.serv == 1) = false := by rw [h1]; rfl
                    have f_s2 : (r.serv == 2) = true := by rw [h1]; rfl
                    have f_s3 : (r.serv == 3) = false := by rw [h1]; rfl
                    have f_s4 : (r.serv == 4) = false := by rw [h1]; rfl
                    clear h1
                    go_wp2_with fail
                    go_roundw
                    case rel => exact ⟨k + 1, ⟨o1, m.sd, m.wr, m.un⟩, by omega, by go_num, rfl, rfl, rfl, rfl, HI3.out, (fun e => by omega), HBB9.out⟩
                    case measure => simp [intOf]; omega
                  · have f_s1 : (r.serv == 1) = false := by rw [h1]; rfl
                    have f_s2 : (r.serv == 2) = false := by rw [h1]; rfl
                    have f_s3 : (r.serv == 3) = false := by rw [h1]; rfl
                    have f_s4 : (r.serv == 4) = true := by rw [h1]; rfl
                    clear h1
                    go_wp2_with fail
                    go_roundw
                    case rel => exact ⟨k + 1, ⟨o1, m.sd, m.wr, m.un⟩, by omega, by go_num, rfl, rfl, rfl, rfl, HI3.out, (fun e => by omega), HBB9.out⟩
                    case measure => simp [intOf]; omega
                · have f_x0 : (x == 0) = false := by simpa using hx
                  have f_x2 : (x == 2) = false := by simpa using hy
                  have f_s1 : (r.serv == 1) = false := by rw [h1]; rfl
                  have f_s2 : (r.serv == 2) = false := by rw [h1]; rfl
                  have f_s3 : (r.serv == 3) = true := by rw [h1]; rfl
                  have f_s4 : (r.serv == 4) = false := by rw [h1]; rfl
                  clear h1 hx hy
                  go_wp2_with fail
                  go_roundw
                  case rel => exact ⟨k + 1, ⟨o1, m.sd, m.wr, m.un⟩, by omega, by go_num, rfl, rfl, rfl, rfl, HI3.out, (fun e => by omega), HBB9.out⟩
                  case measure => simp [intOf]; omega
                · have f_s1 : (r.serv == 1) = false := by simpa using g1
                  have f_s2 : (r.serv == 2) = false := by simpa using g2
                  have f_s3 : (r.serv == 3) = false := by simpa using g3
                  have f_s4 : (r.serv == 4) = false := by simpa using g4
                  clear g1 g2 g3 g4
                  go_wp2_with fail
                  go_roundw
                  case rel => exact ⟨k + 1, ⟨o1, m.sd, m.wr, m.un⟩, by omega, by go_num, rfl, rfl, rfl, rfl, HI3.out, (fun e => by omega), HBB9.out⟩
                  case measure => simp [intOf]; omega
            · as_aux_lemma =>
                have HI3 : Hid (LockI (compAt a comp0 l (k + 1)) ⟨o1, y, m.wr, m.un⟩) := HI2.out
                have f_s1 : (r.serv == 1) = false := by rw [h1]; rfl
                have f_s2 : (r.serv == 2) = true := by rw [h1]; rfl
                have f_s3 : (r.serv == 3) = false := by rw [h1]; rfl
                have f_s4 : (r.serv == 4) = false := by rw [h1]; rfl
                have f_x0 : (x == 0) = true := by rw [show x = 0 from h2]; rfl
                have f_x2 : (x == 2) = false := by rw [show x = 0 from h2]; rfl
                have f_u : decide (r.at_ < m.un) = false := by exact decide_eq_false (by have h3 : m.un ≤ r.at_ := h3; omega)
                clear h1 h2 h3
                go_wp2_with fail
                have HBB9 := Lib.hid HB4.out
                go_roundw
                case rel => exact ⟨k + 1, ⟨o1, y, m.wr, m.un⟩, by omega, by go_num, rfl, rfl, rfl, rfl, HI3.out, (fun e => by omega), HBB9.out⟩
                case measure => simp [intOf]; omega
            · as_aux_lemma =>
                have h4 : 0 ≤ m.sd ∧ m.sd ≤ 65535 := h4
                obtain ⟨ky, hky⟩ : ∃ z, keyS a m.sd = z := ⟨_, rfl⟩
                have HKY : Hid (∀ wx, Calls Tryd.prog 47 #[.agg #[.int .i64 a.secret, .int .i64 a.tries, .int .i64 a.lock, .int .i64 a.idle], .int .i64 m.sd] wx fun e w' => e = .returned (.tuple #[.int .i64 ky, .int .i64 0]) ∧ Below wx.heap.size wx w') := fun wx => Key_any a m.sd wx (r := (ky, 0)) (by unfold keyR; rw [if_pos HACC.out, if_pos (inB_iff'.2 h4), hky])
                have f_ky : (r.val == ky) = true := by rw [← hky]; have h5 : r.val = keyS a m.sd := h5; rw [h5]; simp
                have HI3 : Hid (LockI (compAt a comp0 l (k + 1)) ⟨true, -1, 0, m.un⟩) := HI2.out
                have f_s1 : (r.serv == 1) = false := by rw [h1]; rfl
                have f_s2 : (r.serv == 2) = false := by rw [h1]; rfl
                have f_s3 : (r.serv == 3) = true := by rw [h1]; rfl
                have f_s4 : (r.serv == 4) = false := by rw [h1]; rfl
                have f_x0 : (x == 0) = true := by rw [show x = 0 from h2]; rfl
                have f_x2 : (x == 2) = false := by rw [show x = 0 from h2]; rfl
                have f_u : decide (r.at_ < m.un) = false := by exact decide_eq_false (by have h3 : m.un ≤ r.at_ := h3; omega)
                have f_sd : decide (m.sd < 0) = false := by exact decide_eq_false (by have h4 : 0 ≤ m.sd ∧ m.sd ≤ 65535 := h4; omega)
                clear h1 h2 h3 h4 h5 hky
                go_upto_region 27 with (first | (go_at_call 47; refine (HKY.out _).mono ?_; rintro e w5 ⟨rfl, hb5⟩; have HB6 : Hid (Below w2.heap.size w2 w5) := HB4.out.trans (hb5.mono HB4.out.size); have z0 := (bcell hb5 W.heap.size 0 (by simp)).trans m0; have z2 := (bcell hb5 W.heap.size 2 (by simp)).trans m2; have X0 := (bcell hb5 g (k * 2) (by simp; omega)).trans x0; have HB7 : Hid (Below (w.heap.size + 1) (w.alloc (.cells #[.int .i64 a.secret, .int .i64 a.tries, .int .i64 a.lock, .int .i64 a.idle] 70)) w5) := HB2.out.trans (HB6.out.mono (by have := HB2.out.size; omega)); obtain ⟨r0, r1, r2, r3⟩ := HCS.out w5 HB7.out; clear hb5))
                clear m0 m1 m2 x0 x1 a0 a1 a2 a3
                go_quiet (fail)
                go_wp2_with fail
                have HBB9 := Lib.hid (show Below w2.heap.size w2 (w5.drewN nq) from ⟨HB6.out.os, HB6.out.tape, HB6.out.output, HB6.out.size, HB6.out.block⟩)
                go_roundw
                case rel => exact ⟨k + 1, ⟨true, -1, 0, m.un⟩, by omega, by go_num, rfl, rfl, rfl, rfl, HI3.out, (fun e => by omega), HBB9.out⟩
                case measure => simp [intOf]; omega
            · as_aux_lemma =>
                have h4 : 0 ≤ m.sd ∧ m.sd ≤ 65535 := h4
                obtain ⟨ky, hky⟩ : ∃ z, keyS a m.sd = z := ⟨_, rfl⟩
                have HKY : Hid (∀ wx, Calls Tryd.prog 47 #[.agg #[.int .i64 a.secret, .int .i64 a.tries, .int .i64 a.lock, .int .i64 a.idle], .int .i64 m.sd] wx fun e w' => e = .returned (.tuple #[.int .i64 ky, .int .i64 0]) ∧ Below wx.heap.size wx w') := fun wx => Key_any a m.sd wx (r := (ky, 0)) (by unfold keyR; rw [if_pos HACC.out, if_pos (inB_iff'.2 h4), hky])
                have f_ky : (r.val == ky) = false := by rw [← hky]; have h5 : r.val ≠ keyS a m.sd := h5; simpa using h5
                have HI3 : Hid (LockI (compAt a comp0 l (k + 1)) ⟨o1, -1, m.wr + 1, m.un⟩) := HI2.out
                have f_s1 : (r.serv == 1) = false := by rw [h1]; rfl
                have f_s2 : (r.serv == 2) = false := by rw [h1]; rfl
                have f_s3 : (r.serv == 3) = true := by rw [h1]; rfl
                have f_s4 : (r.serv == 4) = false := by rw [h1]; rfl
                have f_x0 : (x == 0) = false := by rw [show x = 2 from h2]; rfl
                have f_x2 : (x == 2) = true := by rw [show x = 2 from h2]; rfl
                have f_u : decide (r.at_ < m.un) = false := by exact decide_eq_false (by have h3 : m.un ≤ r.at_ := h3; omega)
                have f_sd : decide (m.sd < 0) = false := by exact decide_eq_false (by have h4 : 0 ≤ m.sd ∧ m.sd ≤ 65535 := h4; omega)
                have f_e1 : IntKind.i64.wrap (m.wr + 1) = m.wr + 1 := by exact IntWalk.i64_in _ (by omega)
                have f_tr : (m.wr + 1 == a.tries) = false := by simpa using h6
                clear h1 h2 h3 h4 h5 h6 hky
                go_upto_region 27 with (first | (go_at_call 47; refine (HKY.out _).mono ?_; rintro e w5 ⟨rfl, hb5⟩; have HB6 : Hid (Below w2.heap.size w2 w5) := HB4.out.trans (hb5.mono HB4.out.size); have z0 := (bcell hb5 W.heap.size 0 (by simp)).trans m0; have z2 := (bcell hb5 W.heap.size 2 (by simp)).trans m2; have X0 := (bcell hb5 g (k * 2) (by simp; omega)).trans x0; have HB7 : Hid (Below (w.heap.size + 1) (w.alloc (.cells #[.int .i64 a.secret, .int .i64 a.tries, .int .i64 a.lock, .int .i64 a.idle] 70)) w5) := HB2.out.trans (HB6.out.mono (by have := HB2.out.size; omega)); obtain ⟨r0, r1, r2, r3⟩ := HCS.out w5 HB7.out; clear hb5))
                clear m0 m1 m2 x0 x1 a0 a1 a2 a3
                go_quiet (fail)
                go_wp2_with fail
                have HBB9 := Lib.hid (show Below w2.heap.size w2 (w5.drewN nq) from ⟨HB6.out.os, HB6.out.tape, HB6.out.output, HB6.out.size, HB6.out.block⟩)
                go_roundw
                case rel => exact ⟨k + 1, ⟨o1, -1, m.wr + 1, m.un⟩, by omega, by go_num, rfl, rfl, rfl, rfl, HI3.out, (fun e => by omega), HBB9.out⟩
                case measure => simp [intOf]; omega
            · as_aux_lemma =>
                have h4 : 0 ≤ m.sd ∧ m.sd ≤ 65535 := h4
                obtain ⟨ky, hky⟩ : ∃ z, keyS a m.sd = z := ⟨_, rfl⟩
                have HKY : Hid (∀ wx, Calls Tryd.prog 47 #[.agg #[.int .i64 a.secret, .int .i64 a.tries, .int .i64 a.lock, .int .i64 a.idle], .int .i64 m.sd] wx fun e w' => e = .returned (.tuple #[.int .i64 ky, .int .i64 0]) ∧ Below wx.heap.size wx w') := fun wx => Key_any a m.sd wx (r := (ky, 0)) (by unfold keyR; rw [if_pos HACC.out, if_pos (inB_iff'.2 h4), hky])
                have f_ky : (r.val == ky) = false := by rw [← hky]; have h5 : r.val ≠ keyS a m.sd := h5; simpa using h5
                have HI3 : Hid (LockI (compAt a comp0 l (k + 1)) ⟨o1, -1, 0, r.at_ + a.lock⟩) := HI2.out
                have f_s1 : (r.serv == 1) = false := by rw [h1]; rfl
                have f_s2 : (r.serv == 2) = false := by rw [h1]; rfl
                have f_s3 : (r.serv == 3) = true := by rw [h1]; rfl
                have f_s4 : (r.serv == 4) = false := by rw [h1]; rfl
                have f_x0 : (x == 0) = false := by rw [show x = 2 from h2]; rfl
                have f_x2 : (x == 2) = true := by rw [show x = 2 from h2]; rfl
                have f_u : decide (r.at_ < m.un) = false := by exact decide_eq_false (by have h3 : m.un ≤ r.at_ := h3; omega)
                have f_sd : decide (m.sd < 0) = false := by exact decide_eq_false (by have h4 : 0 ≤ m.sd ∧ m.sd ≤ 65535 := h4; omega)
                have f_e1 : IntKind.i64.wrap (m.wr + 1) = m.wr + 1 := by exact IntWalk.i64_in _ (by omega)
                have f_tr : (m.wr + 1 == a.tries) = true := by simpa using h6
                have f_e2 : IntKind.i64.wrap (r.at_ + a.lock) = r.at_ + a.lock := by exact IntWalk.i64_in _ (by omega)
                clear h1 h2 h3 h4 h5 h6 hky
                go_upto_region 27 with (first | (go_at_call 47; refine (HKY.out _).mono ?_; rintro e w5 ⟨rfl, hb5⟩; have HB6 : Hid (Below w2.heap.size w2 w5) := HB4.out.trans (hb5.mono HB4.out.size); have z0 := (bcell hb5 W.heap.size 0 (by simp)).trans m0; have z2 := (bcell hb5 W.heap.size 2 (by simp)).trans m2; have X0 := (bcell hb5 g (k * 2) (by simp; omega)).trans x0; have HB7 : Hid (Below (w.heap.size + 1) (w.alloc (.cells #[.int .i64 a.secret, .int .i64 a.tries, .int .i64 a.lock, .int .i64 a.idle] 70)) w5) := HB2.out.trans (HB6.out.mono (by have := HB2.out.size; omega)); obtain ⟨r0, r1, r2, r3⟩ := HCS.out w5 HB7.out; clear hb5))
                clear m0 m1 m2 x0 x1 a0 a1 a2 a3
                go_quiet (fail)
                go_wp2_with fail
                have HBB9 := Lib.hid (show Below w2.heap.size w2 (w5.drewN nq) from ⟨HB6.out.os, HB6.out.tape, HB6.out.output, HB6.out.size, HB6.out.block⟩)
                go_roundw
                case rel => exact ⟨k + 1, ⟨o1, -1, 0, r.at_ + a.lock⟩, by omega, by go_num, rfl, rfl, rfl, rfl, HI3.out, (fun e => by omega), HBB9.out⟩
                case measure => simp [intOf]; omega
            · as_aux_lemma =>
                have ho : o1 = true := ho
                subst ho
                have hv2 : y = r.val := hv2
                have HI3 : Hid (LockI (compAt a comp0 l (k + 1)) ⟨true, m.sd, m.wr, m.un⟩) := HI2.out
                have f_s1 : (r.serv == 1) = false := by rw [h1]; rfl
                have f_s2 : (r.serv == 2) = false := by rw [h1]; rfl
                have f_s3 : (r.serv == 3) = false := by rw [h1]; rfl
                have f_s4 : (r.serv == 4) = true := by rw [h1]; rfl
                have f_x0 : (x == 0) = true := by rw [show x = 0 from h2]; rfl
                have f_x2 : (x == 2) = false := by rw [show x = 0 from h2]; rfl
                have f_yv : (y != r.val) = false := by rw [hv2]; simp
                clear h1 h2 hv2
                go_wp2_with fail
                go_quiet (fail)
                go_wp2_with fail
                have HBB9 := Lib.hid (show Below w2.heap.size w2 ((W.alloc (.cells #[.int .i64 r.at_, .int .i64 r.serv, .int .i64 r.val] 80)).drewN nq) from ⟨HB4.out.os, HB4.out.tape, HB4.out.output, HB4.out.size, HB4.out.block⟩)
                go_roundw
                case rel => exact ⟨k + 1, ⟨true, m.sd, m.wr, m.un⟩, by omega, by go_num, rfl, rfl, rfl, rfl, HI3.out, (fun e => by omega), HBB9.out⟩
                case measure => simp [intOf]; omega
end Go.Proofs.YtonpemikodajdaaDoor
