/- Walk: diagnose.Talk. -/
import Derived.Test.YtonpemikodajdaaDoorAc4
namespace Go.Proofs.YtonpemikodajdaaDoor
open Go.RowKit

def talkE (a : MAcc) (l : List MReq) : Int := if accB a = true then (if l.length > 200 then 2 else if timesG 0 l = true then 0 else 1) else 103
def TalkPost (w : World) (a : MAcc) (l : List MReq) (R : List (Int × Int)) (e : Ending) (w' : World) : Prop :=
  Below w.heap.size w w' ∧ ∃ v, e = .returned (.tuple #[v, .int .i64 (talkE a l)]) ∧ OutR w' w.heap.size v (if talkE a l = 0 then R else [])
theorem OutR.base {w : World} {b0 b1 : Nat} {v : Value} {l : List (Int × Int)} (h : OutR w b0 v l) (hb : b1 ≤ b0) : OutR w b1 v l := own_base h hb
theorem talk_end {w w' : World} {a : MAcc} {l : List MReq} {R : List (Int × Int)} {r : Int} (hb : Below w.heap.size w w') (he : talkE a l = r) (h0 : r ≠ 0) : TalkPost w a l R (.returned (.tuple #[.slice none 0 0, .int .i64 r])) w' :=
  ⟨hb, .slice none 0 0, by rw [he], by rw [if_neg (by rw [he]; exact h0)]; exact OutR.nil _ _⟩
set_option maxRecDepth 100000 in
set_option maxHeartbeats 4000000 in
theorem talk_any (a : MAcc) (A : Option Addr) (lc : Nat) (l : List MReq) (w : World) (h : ReqsA w w.heap.size A l) :
    Calls Tryd.prog 45 #[accV a, .slice A l.length lc] w (TalkPost w a l (runS a comp0 l)) := by
  unfold accV
  have hlen := h.1
  unfold maxLen at hlen
  have hb1 : Below w.heap.size w (w.alloc (.cells #[.int .i64 a.secret, .int .i64 a.tries, .int .i64 a.lock, .int .i64 a.idle] 70)) := (Below.refl _ _).alloc (Nat.le_refl _) _
  have hsz : (w.alloc (.cells #[.int .i64 a.secret, .int .i64 a.tries, .int .i64 a.lock, .int .i64 a.idle] 70)).heap.size = w.heap.size + 1 := by simp
  have n0 := newcell w #[.int .i64 a.secret, .int .i64 a.tries, .int .i64 a.lock, .int .i64 a.idle] 70 0
  have n1 := newcell w #[.int .i64 a.secret, .int .i64 a.tries, .int .i64 a.lock, .int .i64 a.idle] 70 1
  have n2 := newcell w #[.int .i64 a.secret, .int .i64 a.tries, .int .i64 a.lock, .int .i64 a.idle] 70 2
  have n3 := newcell w #[.int .i64 a.secret, .int .i64 a.tries, .int .i64 a.lock, .int .i64 a.idle] 70 3
  simp only [List.getElem?_toArray, List.getElem?_cons_succ, List.getElem?_cons_zero] at n0 n1 n2 n3
  rcases hb : accB a
  · have HC := Lib.hid (checkacc_any a (w.alloc (.cells #[.int .i64 a.secret, .int .i64 a.tries, .int .i64 a.lock, .int .i64 a.idle] 70)) (show checkA a = 103 by unfold checkA; rw [hb]; rfl))
    have HR : Hid (talkE a l = 103) := by show _ = _; unfold talkE; rw [hb]; rfl
    clear hb
    go_enter Tryd.func45, Tryd.ntmps45
    go_wp2_with (go_at_call 80; refine HC.out.mono ?_; rintro e w2 ⟨rfl, hb2⟩)
    go_ret2
    exact talk_end (hb1.trans (hb2.mono (by omega))) HR.out (by decide)
  · have HC := Lib.hid (checkacc_any a (w.alloc (.cells #[.int .i64 a.secret, .int .i64 a.tries, .int .i64 a.lock, .int .i64 a.idle] 70)) (show checkA a = 0 by unfold checkA; rw [hb]; rfl))
    have HACC := Lib.hid hb
    clear hb
    by_cases hm : l.length > 200
    · have HR : Hid (talkE a l = 2) := by show _ = _; unfold talkE; rw [if_pos HACC.out, if_pos hm]
      go_enter Tryd.func45, Tryd.ntmps45
      go_wp2_with (go_at_call 80; refine HC.out.mono ?_; rintro e w2 ⟨rfl, hb2⟩)
      go_ret2
      exact talk_end (hb1.trans (hb2.mono (by omega))) HR.out (by decide)
    · have HM := Lib.hid hm
      have hl200 : l.length ≤ 200 := by omega
      have hwE : Hid (talkE a l = if timesG 0 l = true then 0 else 1) := by show _ = _; unfold talkE; rw [if_pos HACC.out, if_neg hm]
      clear hm
      go_enter Tryd.func45, Tryd.ntmps45
      go_wp2_with (go_at_call 80; refine HC.out.mono ?_; rintro e w2 ⟨rfl, hb2⟩; have m0 := (bcell hb2 w.heap.size 0 (by omega)).trans n0; have m1 := (bcell hb2 w.heap.size 1 (by omega)).trans n1; have m2 := (bcell hb2 w.heap.size 2 (by omega)).trans n2; have m3 := (bcell hb2 w.heap.size 3 (by omega)).trans n3; have hbw2 := hb1.trans (hb2.mono (by omega)); have hs2 := hb2.size)
      rw [hsz] at hs2
      clear n0 n1 n2 n3
      go_loopw [23, 7, 4, 5] (fun vi vt v4 v5 wr => ∃ k : Nat, k ≤ l.length ∧ vi = .int .i64 k ∧ vt = .int .i64 (lastAt l k) ∧ v4 = .slice none 0 0 ∧ v5 = .int .i64 0 ∧ Hid (timesG 0 l = timesG (lastAt l k) (l.drop k)) ∧ Below (w.heap.size + 1) w2 wr) (fun vi _ _ _ _ => l.length - (intOf vi).toNat)
      case atStart => exact ⟨0, Nat.zero_le _, rfl, rfl, rfl, rfl, rfl, Below.refl _ _⟩
      case round =>
        obtain ⟨k, hk, rfl, rfl, rfl, rfl, HT, hbr⟩ := hrel
        have hbw : Below w.heap.size w wr := hbw2.trans (hbr.mono (by omega))
        by_cases hlt : k < l.length
        · obtain ⟨r, b, off, ht, rfl, hblt, t0, t1, t2⟩ := (h.keep hbw).at_ hlt
          have hst := timesG_step ht
          have HT2 : Hid (timesG 0 l = (inB r.at_ (lastAt l k) 1000000 && timesG (lastAt l (k + 1)) (l.drop (k + 1)))) := by show _ = _; rw [HT.out, hst.1]
          have HLA := Lib.hid hst.2
          clear hst ht
          generalize hla : lastAt l k = la at *
          have HL1 := Lib.hid hla
          clear hla
          have n0 := newcell wr #[.int .i64 r.at_, .int .i64 r.serv, .int .i64 r.val] 80 0
          have hb3 : Below (w.heap.size + 1) w2 (wr.alloc (.cells #[.int .i64 r.at_, .int .i64 r.serv, .int .i64 r.val] 80)) := hbr.alloc (by have := hbr.size; omega) _
          rcases hin : inB r.at_ la 1000000
          · have HIN := Lib.hid hin
            have HR : Hid (talkE a l = 1) := by show _ = _; rw [hwE.out, HT2.out, hin]; rfl
            clear hin
            go_wp2_with (go_at_call 66; refine (within_b _ _ _ _ _ HIN.out).mono ?_; rintro e w3 ⟨rfl, rfl⟩)
            go_ret2
            exact talk_end (hbw2.trans (hb3.mono (by omega))) HR.out (by decide)
          · have HIN := Lib.hid hin
            have HT3 : Hid (timesG 0 l = timesG (lastAt l (k + 1)) (l.drop (k + 1))) := by show _ = _; rw [HT2.out, hin]; rfl
            clear hin
            go_wp2_with (go_at_call 66; refine (within_b _ _ _ _ _ HIN.out).mono ?_; rintro e w3 ⟨rfl, rfl⟩)
            go_roundw
            case rel => exact ⟨k + 1, by omega, by go_num, by rw [HLA.out], rfl, rfl, HT3, hb3⟩
            case measure => simp [intOf]; omega
        · obtain rfl : k = l.length := by omega
          have hT : timesG 0 l = true := by rw [HT.out, List.drop_length]; rfl
          have HR : Hid (talkE a l = 0) := by show _ = _; rw [hwE.out, if_pos hT]
          have HTA := Lib.hid (timesG_all l 0 (Int.le_refl 0) hT)
          clear HT hT
          have p0 := (bcell hbr w.heap.size 0 (by omega)).trans m0
          have p1 := (bcell hbr w.heap.size 1 (by omega)).trans m1
          have p2 := (bcell hbr w.heap.size 2 (by omega)).trans m2
          have p3 := (bcell hbr w.heap.size 3 (by omega)).trans m3
          have hsr := hbr.size
          obtain ⟨wk, rfl⟩ : ∃ wk : World, wk = wr := ⟨_, rfl⟩
          have hcomp : CompA (wk.alloc (.cells #[.int .i64 a.secret, .int .i64 a.tries, .int .i64 a.lock, .int .i64 a.idle, .int .i64 0, .bool false, .int .i64 (-1), .int .i64 0, .int .i64 0, .int .i64 0, .int .i64 0] 128)) wk.heap.size a (compAt a comp0 l 0) := heap_alloc_new wk _
          have HCP := Lib.hid hcomp
          have HBW : Hid (Below w.heap.size w (wk.alloc (.cells #[.int .i64 a.secret, .int .i64 a.tries, .int .i64 a.lock, .int .i64 a.idle, .int .i64 0, .bool false, .int .i64 (-1), .int .i64 0, .int .i64 0, .int .i64 0, .int .i64 0] 128))) := hbw.alloc (by omega) _
          have hwk : w.heap.size < wk.heap.size := by omega
          clear hcomp hbr hbw2 hb2
          go_wp2_with fail
          go_loopw [40, 4] (fun vi v4 wr => ∃ k : Nat, k ≤ l.length ∧ vi = .int .i64 k ∧ Hid (CompA wr wk.heap.size a (compAt a comp0 l k)) ∧ Hid (OutR wr (wk.heap.size + 1) v4 ((runS a comp0 l).take k)) ∧ Hid (Below w.heap.size w wr)) (fun vi _ _ => l.length - (intOf vi).toNat)
          case atStart => exact ⟨0, Nat.zero_le _, rfl, HCP, OutR.nil _ _, HBW⟩
          case round =>
            obtain ⟨k, hk, rfl, HCO, HO, HB⟩ := hrel
            by_cases hlt2 : k < l.length
            · obtain ⟨r, b, off, ht, rfl, hblt, t0, t1, t2⟩ := (h.keep HB.out).at_ hlt2
              have hrb := HTA.out k r ht
              have hck := compAt_ok (a := a) HTA.out k hk
              have htk := runS_take a comp0 l ht
              have hkn : compAt a comp0 l (k + 1) = (answerS a (compAt a comp0 l k) r).1 := by
                show (answerS a (compAt a comp0 l k) (l.getD k dReq)).1 = _
                rw [List.getD_eq_getElem?_getD, ht]; rfl
              generalize hc : compAt a comp0 l k = c at *
              obtain ⟨x, hx⟩ : ∃ x, answerS a c r = x := ⟨_, rfl⟩
              rw [hx] at htk hkn
              have HTK := Lib.hid htk
              have HKN := Lib.hid hkn
              have hlt1 := HCO.out.lt
              have hsz1 : (wr.alloc (.cells #[.int .i64 r.at_, .int .i64 r.serv, .int .i64 r.val] 80)).heap.size = wr.heap.size + 1 := by simp
              have hco1 : CompA (wr.alloc (.cells #[.int .i64 r.at_, .int .i64 r.serv, .int .i64 r.val] 80)) wk.heap.size a c := HCO.out.below ((Below.refl wr.heap.size wr).alloc (Nat.le_refl _) _) hlt1
              have HAN := Lib.hid (answer_any a c r wk.heap.size (wr.alloc (.cells #[.int .i64 r.at_, .int .i64 r.serv, .int .i64 r.val] 80)) hco1 HACC.out hck.seed (by have := hck.wrong; omega) (by have := hck.seeds; omega) hrb hck.last hx)
              unfold reqV at HAN
              have n0 := newcell wr #[.int .i64 r.at_, .int .i64 r.serv, .int .i64 r.val] 80 0
              have n1 := newcell wr #[.int .i64 r.at_, .int .i64 r.serv, .int .i64 r.val] 80 1
              have n2 := newcell wr #[.int .i64 r.at_, .int .i64 r.serv, .int .i64 r.val] 80 2
              simp only [List.getElem?_toArray, List.getElem?_cons_succ, List.getElem?_cons_zero] at n0 n1 n2
              have HO1 : Hid (OutR (wr.alloc (.cells #[.int .i64 r.at_, .int .i64 r.serv, .int .i64 r.val] 80)) (wk.heap.size + 1) u4 ((runS a comp0 l).take k)) := HO.out.keep fun g _ hg => Below.heap_alloc wr _ g hg
              have HB1 : Hid (Below w.heap.size w (wr.alloc (.cells #[.int .i64 r.at_, .int .i64 r.serv, .int .i64 r.val] 80))) := HB.out.alloc (by omega) _
              clear hx htk hkn hck hco1 hc ht
              have hlk : ((runS a comp0 l).take k).length ≤ 1000000 := by rw [List.length_take]; omega
              have hk1 : Hid (l.length ≤ 200) := hl200
              go_wp2_with (first | (go_at_call 81; refine HAN.out.mono ?_; rintro e w5 ⟨rfl, h5, hg5⟩; have HS5 := Lib.hid hg5.size; have HO6 : Hid (OutR (w5.alloc (.cells #[.int .i64 x.2.1, .int .i64 x.2.2] 76)) (wk.heap.size + 1) u4 ((runS a comp0 l).take k)) := (HO1.out.keep (fun g hg hlt => hg5.block g hlt (fun e => by injection e with e; omega))).keep (fun g _ hg => Below.heap_alloc w5 _ g hg); have HC6 : Hid (CompA (w5.alloc (.cells #[.int .i64 x.2.1, .int .i64 x.2.2] 76)) wk.heap.size a x.1) := h5.below ((Below.refl w5.heap.size w5).alloc (Nat.le_refl _) _) h5.lt; have HB6 : Hid (Below w.heap.size w (w5.alloc (.cells #[.int .i64 x.2.1, .int .i64 x.2.2] 76))) := (HB1.out.grown hg5 (by omega) (fun k hk => by injection hk with hk; omega)).alloc (by have := hg5.size; omega) _; have HQ0 := Lib.hid (newcell w5 #[.int .i64 x.2.1, .int .i64 x.2.2] 76 0); have HQ1 := Lib.hid (newcell w5 #[.int .i64 x.2.1, .int .i64 x.2.2] 76 1); clear hg5) | (at_builtin; refine app_rep _ rfl _ _ rfl (wk.heap.size + 1) u4 _ rfl HO6.out w5.heap.size rfl x.2 HQ0.out HQ1.out hlk (by have := h5.lt; simp; omega) ?_; intro v7 w7 hO7 hg7; have HO7 := Lib.hid hO7; have HG7 := Lib.hid hg7; clear hO7 hg7))
              go_roundw
              case rel =>
                have hvl := own_block_lt HO6.out
                have hC7 : CompA w7 wk.heap.size a x.1 := (HG7.out.block wk.heap.size HC6.out.lt (fun e => by have := (hvl _ e.symm).1; omega)).trans HC6.out
                exact ⟨k + 1, by omega, by go_num, by rw [HKN.out]; exact hC7, by rw [HTK.out]; exact HO7.out, HB6.out.grown HG7.out (by have := h5.lt; simp; omega) (fun k hk => by have := (hvl k hk).1; omega)⟩
              case measure => simp [intOf]; omega
            · obtain rfl : k = l.length := by omega
              go_wp2_with fail
              go_ret2
              refine ⟨HB.out, u4, by rw [HR.out]; rfl, ?_⟩
              rw [if_pos HR.out]
              have h9 := HO.out
              rw [List.take_of_length_le (by rw [runS_len]; exact Nat.le_refl _)] at h9
              exact h9.base (by omega)
end Go.Proofs.YtonpemikodajdaaDoor
