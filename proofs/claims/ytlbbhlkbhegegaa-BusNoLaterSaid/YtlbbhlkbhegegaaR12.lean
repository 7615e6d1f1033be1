/- Walks: bus.Response, bus.Late, ignitionlaw04.Heavy. -/
import Derived.Test.YtlbbhlkbhegegaaR11
namespace Go.Proofs.Ytlbbhlkbhegegaa
open Go.RowKit

set_option maxRecDepth 100000 in
set_option maxHeartbeats 2000000 in
theorem resp_any (A : Option Addr) (cap : Nat) (l : List MFrame) (frame : Int) (w : World) (h : FramesA w w.heap.size A l) (hcap : l.length ≤ cap) {x c : Int} (hp : respOut l frame = (x, c)) :
    Calls Try.prog 26 #[.slice A l.length cap, .int .i64 frame] w fun e w' => e = .returned (.tuple #[.int .i64 x, .int .i64 c]) ∧ Below w.heap.size w w' := by
  have hC := fcheck_any A cap l w h hcap
  rcases hv : framesB l
  · unfold respOut at hp
    rw [if_pos hv] at hp
    injection hp with h1 h2
    subst h1
    subst h2
    rw [fcheck_no hv] at hC
    have HC := Lib.hid hC
    clear hC hv
    go_enter Try.func26, Try.ntmps26
    go_wp2_with (go_at_call 37; refine HC.out.mono ?_; rintro e w1 ⟨rfl, hb1⟩)
    go_ret2
    exact ⟨rfl, hb1⟩
  · rw [fcheck_yes hv] at hC
    have HC := Lib.hid hC
    have hl := (framesB_parts hv).1
    rcases hin : inB frame 0 ((l.length : Int) - 1)
    · unfold respOut at hp
      rw [if_neg (by rw [hv]; simp), if_pos hin] at hp
      injection hp with h1 h2
      subst h1
      subst h2
      have HN := Lib.hid hin
      clear hC hv hin
      go_enter Try.func26, Try.ntmps26
      go_wp2_with (first | (go_at_call 37; refine HC.out.mono ?_; rintro e w1 ⟨rfl, hb1⟩) | (go_at_call 67; refine (within_b _ _ _ _ _ HN.out).mono ?_; rintro e w' ⟨rfl, rfl⟩))
      go_ret2
      exact ⟨rfl, hb1⟩
    · have hrange := inB_iff'.1 hin
      obtain ⟨i, rfl⟩ := Int.eq_ofNat_of_zero_le hrange.1
      have hil : i < l.length := by omega
      have hi : l[i]? = some l[i] := List.getElem?_eq_getElem hil
      have HN := Lib.hid hin
      have HH : Hid (∀ w1, Below w.heap.size w w1 → Calls Try.prog 66 #[.slice A l.length cap, .int .i64 i] w1 fun e w' => ∃ gb, e = .returned (.slice (some ⟨gb, 0, none⟩) l.length l.length) ∧ w1.heap.size ≤ gb ∧ OwnF w' gb 4 l.length (fun j => .bool (higherB l l[i].rank j)) ∧ Below w1.heap.size w1 w') := fun w1 hb => higher_any A cap l i l[i] w1 ((h.keep hb).more hb.size) hl hi hil
      have hR : ∀ w1 w2 gb, Below w.heap.size w w1 → Below w1.heap.size w1 w2 → OwnF w2 gb 4 l.length (fun j => .bool (higherB l l[i].rank j)) → Calls Try.prog 65 #[.slice A l.length cap, .int .i64 i, .slice (some ⟨gb, 0, none⟩) l.length l.length] w2 fun e w' => e = .returned (settleV (respI l i)) ∧ Below w2.heap.size w2 w' := fun w1 w2 gb hb hb2 hG => by
        rw [respI_of hi]
        have hbb := hb.trans (hb2.mono hb.size)
        exact response_any A cap l _ i gb l[i] w2 ((h.keep hbb).more hbb.size) (framesF hv) hl hi hil hG
      rcases ho : respI l i with _ | y
      · have e1 := respOut_none hv hil ho
        rw [e1] at hp
        injection hp with h1 h2
        subst h1
        subst h2
        rw [ho] at hR
        have HR := Lib.hid hR
        clear hC hv hin hR hi ho e1
        go_enter Try.func26, Try.ntmps26
        go_wp2_with (first | (go_at_call 37; refine HC.out.mono ?_; rintro e w1 ⟨rfl, hb1⟩) | (go_at_call 67; refine (within_b _ _ _ _ _ HN.out).mono ?_; rintro e w' ⟨rfl, rfl⟩) | (go_at_call 66; refine (HH.out _ hb1).mono ?_; rintro e w2 ⟨gb, rfl, _, hG, hb2⟩) | (go_at_call 65; refine (HR.out _ _ _ hb1 hb2 hG).mono ?_; rintro e w3 ⟨rfl, hb3⟩; unfold settleV))
        go_ret2
        exact ⟨rfl, (hb1.trans (hb2.mono hb1.size)).trans (hb3.mono (by have := hb1.size; have := hb2.size; omega))⟩
      · have e1 := respOut_some hv hil ho
        rw [e1] at hp
        injection hp with h1 h2
        subst h1
        subst h2
        have hyb := respI_nn hv hil ho
        rw [ho] at hR
        have HR := Lib.hid hR
        clear hC hv hin hR hi ho e1
        go_enter Try.func26, Try.ntmps26
        go_wp2_with (first | (go_at_call 37; refine HC.out.mono ?_; rintro e w1 ⟨rfl, hb1⟩) | (go_at_call 67; refine (within_b _ _ _ _ _ HN.out).mono ?_; rintro e w' ⟨rfl, rfl⟩) | (go_at_call 66; refine (HH.out _ hb1).mono ?_; rintro e w2 ⟨gb, rfl, _, hG, hb2⟩) | (go_at_call 65; refine (HR.out _ _ _ hb1 hb2 hG).mono ?_; rintro e w3 ⟨rfl, hb3⟩; unfold settleV))
        go_ret2
        exact ⟨rfl, (hb1.trans (hb2.mono hb1.size)).trans (hb3.mono (by have := hb1.size; have := hb2.size; omega))⟩

set_option maxRecDepth 100000 in
set_option maxHeartbeats 2000000 in
theorem late_any (A : Option Addr) (cap : Nat) (l : List MFrame) (w : World) (h : FramesA w w.heap.size A l) (hcap : l.length ≤ cap) :
    Calls Try.prog 29 #[.slice A l.length cap] w (RetLE w (lateL l) (fcheckS l)) := by
  have hC := responses_any A cap l w h hcap
  rcases hv : framesB l
  · have HE := Lib.hid (show lateL l = [] by unfold lateL; rw [hv]; rfl)
    rw [fcheck_no hv] at hC ⊢
    have HC := Lib.hid hC
    clear hC hv
    go_enter Try.func29, Try.ntmps29
    go_wp2_with (go_at_call 25; refine HC.out.mono ?_; rintro e w1 ⟨hb1, A', c', rfl, _, _⟩)
    go_ret2
    exact RetLE.err HE.out rfl hb1
  · have HV := Lib.hid hv
    have hl := (framesB_parts hv).1
    have HE := Lib.hid (show lateL l = lateTo l l.length by unfold lateL; rw [hv]; rfl)
    have HRL := Lib.hid (show respL l = (List.range l.length).map (respZ l) by unfold respL; rw [hv]; rfl)
    rw [fcheck_yes hv] at hC ⊢
    rw [HRL.out] at hC
    have hrl : ((List.range l.length).map (respZ l)).length = l.length := by simp
    have HAT : Hid (∀ k, k < l.length → ((List.range l.length).map (respZ l)).getD k 0 = respZ l k) := fun k hk => by simp [List.getD_eq_getElem?_getD, hk]
    generalize (List.range l.length).map (respZ l) = R at *
    have HLR := Lib.hid hrl
    have hlr : R.length ≤ 40 := by omega
    have HC := Lib.hid hC
    clear hC hv hrl
    go_enter Try.func29, Try.ntmps29
    go_wp2_with (go_at_call 25; refine HC.out.mono ?_; rintro e w1 ⟨hb1, A', c', rfl, _, hI⟩)
    go_loopw [2, 17] (fun v i wr => ∃ k : Nat, k ≤ l.length ∧ i = .int .i64 k ∧ OutI wr w1.heap.size v (lateTo l k) ∧ Below w1.heap.size w1 wr) (fun _ i _ => l.length - (intOf i).toNat)
    case atStart => exact ⟨0, Nat.zero_le _, rfl, OutI.nil _ _, Below.refl _ _⟩
    case round =>
      obtain ⟨k, hk, rfl, hOut, hbw⟩ := hrel
      have hlen := lateTo_len l k
      have HSN := Lib.hid (lateTo_succ l k)
      generalize hL : lateTo l k = L at *
      have HL := Lib.hid hL
      clear hL
      obtain ⟨Ab, cb, rfl, hcb, _⟩ := hOut.lenV
      have hsz := hbw.size
      by_cases hlt : k < l.length
      · have hkR : k < R.length := by rw [HLR.out]; exact hlt
        obtain ⟨ib, io, rfl, hib, hic⟩ := (hI.below hbw (Nat.le_refl _)).at_ hkR
        rw [HAT.out k hlt] at hic
        have hi : l[k]? = some l[k] := List.getElem?_eq_getElem hlt
        obtain ⟨b, off, rfl, hblt, _, _, _, d3, _⟩ := (h.keep (hb1.trans (hbw.mono hb1.size))).sizeAt hi hlt
        have hLB := lateB_of hi
        generalize respZ l k = x at *
        generalize l[k].due = d at *
        have HLB := Lib.hid hLB
        clear hLB hi
        by_cases hneg : x < 0
        · have HX : Hid (lateB l k = true) := by show _ = _; rw [HLB.out, decide_eq_true hneg]; rfl
          have hO3 : OutI (wr.alloc (.cells #[.int .i64 (k : Int)] 3)) w1.heap.size _ _ := World.ownsRow.alloc hOut _
          go_wp2_with (at_builtin; refine app_int _ rfl _ _ rfl w1.heap.size _ _ rfl hO3 wr.heap.size (k : Int) rfl (newcell _ _ _ _) (by omega) (by simp; omega) ?_; intro v' w6 hO6 hg6)
          go_roundw
          case rel => exact ⟨k + 1, by omega, by go_num, by rw [HSN.out, HX.out]; exact hO6, hbw.trans ((((Below.refl _ _).alloc (by omega) _)).grown hg6 (by simp; omega) (fun g hg => (own_block_lt hO3 g hg).1))⟩
          case measure => simp [intOf]; omega
        · by_cases hdx : d < x
          · have HX : Hid (lateB l k = true) := by show _ = _; rw [HLB.out, decide_eq_true hdx]; simp
            have hO3 : OutI (wr.alloc (.cells #[.int .i64 (k : Int)] 3)) w1.heap.size _ _ := World.ownsRow.alloc hOut _
            go_wp2_with (at_builtin; refine app_int _ rfl _ _ rfl w1.heap.size _ _ rfl hO3 wr.heap.size (k : Int) rfl (newcell _ _ _ _) (by omega) (by simp; omega) ?_; intro v' w6 hO6 hg6)
            go_roundw
            case rel => exact ⟨k + 1, by omega, by go_num, by rw [HSN.out, HX.out]; exact hO6, hbw.trans ((((Below.refl _ _).alloc (by omega) _)).grown hg6 (by simp; omega) (fun g hg => (own_block_lt hO3 g hg).1))⟩
            case measure => simp [intOf]; omega
          · have HX : Hid (lateB l k = false) := by show _ = _; rw [HLB.out, decide_eq_false hneg, decide_eq_false hdx]; rfl
            go_wp2_with fail
            go_roundw
            case rel => exact ⟨k + 1, by omega, by go_num, by rw [HSN.out, HX.out, if_neg (by simp), List.append_nil]; exact hOut, hbw⟩
            case measure => simp [intOf]; omega
      · obtain rfl : k = l.length := by omega
        have hlr2 : R.length ≤ l.length := by rw [HLR.out]; exact Nat.le_refl _
        go_wp2_with fail
        go_ret2
        exact RetLE.out (by rw [HE.out, HL.out]) (hb1.trans (hbw.mono hb1.size)) hOut

set_option maxRecDepth 100000 in
set_option maxHeartbeats 2000000 in
theorem heavy_any (A : Option Addr) (cap : Nat) (l : List MFrame) (w : World) (h : FramesA w w.heap.size A l) :
    Calls Try.prog 24 #[.slice A l.length cap] w fun e w' => (∃ r, e = .returned (.bool r)) ∧ Below w.heap.size w w' := by
  have hC := rfcheck_any A cap l w h
  have hlen := h.1
  unfold maxLen at hlen
  by_cases h12 : 12 < l.length
  · by_cases h40 : l.length ≤ 40
    · go_enter Try.func24, Try.ntmps24
      go_wp2_with fail
      go_ret
      exact ⟨⟨_, rfl⟩, Below.refl _ _⟩
    · rw [fcheck_no (framesB_len (by omega))] at hC
      have HC := Lib.hid hC
      clear hC
      go_enter Try.func24, Try.ntmps24
      go_wp2_with (go_at_call 23; refine HC.out.mono ?_; rintro e w1 ⟨rfl, hb1⟩)
      go_ret
      exact ⟨⟨_, rfl⟩, hb1⟩
  · rcases hv : framesB l
    · rw [fcheck_no hv] at hC
      have HC := Lib.hid hC
      clear hC hv
      go_enter Try.func24, Try.ntmps24
      go_wp2_with (go_at_call 23; refine HC.out.mono ?_; rintro e w1 ⟨rfl, hb1⟩)
      go_ret
      exact ⟨⟨_, rfl⟩, hb1⟩
    · rw [fcheck_yes hv] at hC
      have HC := Lib.hid hC
      have HF := Lib.hid (framesF hv)
      clear hC hv
      go_enter Try.func24, Try.ntmps24
      go_wp2_with (go_at_call 23; refine HC.out.mono ?_; rintro e w1 ⟨rfl, hb1⟩)
      go_loopw [2, 3, 4] (fun v2 p i wr => v2 = .bool false ∧ ∃ (k : Nat) (s : Int), k ≤ l.length ∧ i = .int .i64 k ∧ p = .int .i64 s ∧ 0 ≤ s ∧ s ≤ 2000000000 * (k : Int) ∧ Below w.heap.size w wr) (fun _ _ i _ => l.length - (intOf i).toNat)
      case atStart => exact ⟨rfl, 0, 0, Nat.zero_le _, rfl, rfl, by omega, by omega, hb1⟩
      case round =>
        clear hb1
        obtain ⟨rfl, k, s, hk, rfl, rfl, hs0, hs1, hbw⟩ := hrel
        by_cases hlt : k < l.length
        · have hi : l[k]? = some l[k] := List.getElem?_eq_getElem hlt
          have hfo := HF.out k _ hi
          have hsize := hfo.1
          have hev := hfo.2.1
          have hji := hfo.2.2.2.1
          obtain ⟨b, off, rfl, hblt, d0, d1, d2, d3, d4⟩ := (h.keep hbw).sizeAt hi hlt
          have HI := Lib.hid hi
          clear hi hfo d3 d4
          generalize hf : l[k] = f at *
          have HFF := Lib.hid hf
          clear hf
          have hn0 : 0 ≤ f.size * 1000000 + f.every - 1 ∧ f.size * 1000000 + f.every - 1 ≤ 1100000000 := by omega
          have hdv : 0 ≤ (f.size * 1000000 + f.every - 1) / f.every ∧ (f.size * 1000000 + f.every - 1) / f.every ≤ 1100000000 := ⟨Int.ediv_nonneg hn0.1 (by omega), by have := Int.ediv_le_self (a := f.size * 1000000 + f.every - 1) f.every hn0.1; omega⟩
          have hee : (f.size * 1000000 + f.every - 1).tdiv f.every = (f.size * 1000000 + f.every - 1) / f.every := Int.tdiv_eq_ediv_of_nonneg hn0.1
          generalize hDD : (f.size * 1000000 + f.every - 1) / f.every = D at *
          clear hDD
          go_wp2_with fail
          have e0 : IntKind.i64.wrap (f.size * 1000000) = f.size * 1000000 := IntWalk.i64_in _ (by omega)
          have e1 : IntKind.i64.wrap (f.size * 1000000 + f.every) = f.size * 1000000 + f.every := IntWalk.i64_in _ (by omega)
          have e2 : IntKind.i64.wrap (f.size * 1000000 + f.every - 1) = f.size * 1000000 + f.every - 1 := IntWalk.i64_in _ (by omega)
          have hev0 : (f.every == 0) = false := by rw [beq_eq_false_iff_ne]; omega
          have e3 : IntKind.i64.wrap D = D := IntWalk.i64_in _ (by omega)
          have e4 : IntKind.i64.wrap (s + D) = s + D := IntWalk.i64_in _ (by omega)
          go_quiet (fail)
          clear e0 e1 e2 e3 e4 hev0 hee
          have hbq := bdrew hbw nq
          generalize wr.drewN nq = w2 at *
          clear d0 d1 d2 hbw
          obtain ⟨b2, off2, he, hblt2, d0, d1, d2, d3, d4⟩ := (h.keep hbq).sizeAt HI.out hlt
          injection he with he
          injection he with he1 he2
          subst he1
          subst he2
          clear d3 d4 d0
          go_wp2_with fail
          have e5 : IntKind.i64.wrap (20 * f.every) = 20 * f.every := IntWalk.i64_in _ (by omega)
          go_quiet (fail)
          clear e5
          by_cases hj : 20 * f.every < f.jitter
          · go_wp2_with fail
            go_ret
            exact ⟨⟨_, rfl⟩, bdrew hbq _⟩
          · go_wp2_with fail
            go_roundw
            case rel => exact ⟨rfl, k + 1, s + D, by omega, by go_num, rfl, by omega, by omega, bdrew hbq _⟩
            case measure => simp [intOf]; omega
        · obtain rfl : k = l.length := by omega
          go_wp2_with fail
          go_ret
          exact ⟨⟨_, rfl⟩, hbw⟩
end Go.Proofs.Ytlbbhlkbhegegaa
