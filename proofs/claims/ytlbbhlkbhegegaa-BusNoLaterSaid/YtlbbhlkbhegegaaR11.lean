/- Walks: ignitionref04.Responses, Response, late, Late. -/
import Derived.Test.YtlbbhlkbhegegaaR10
namespace Go.Proofs.Ytlbbhlkbhegegaa
open Go.RowKit

theorem respZ_bd {l : List MFrame} (hv : framesB l = true) {i : Nat} (hil : i < l.length) : -1 ≤ respZ l i ∧ respZ l i ≤ 2000000 := by
  have hi : l[i]? = some l[i] := List.getElem?_eq_getElem hil
  unfold respZ
  rw [respI_of hi]
  rcases ho : respS l (higherB l l[i].rank) i with _ | x
  · show -1 ≤ (-1 : Int) ∧ (-1 : Int) ≤ 2000000
    omega
  · have := respS_bd hi (framesF hv i _ hi) ho
    show -1 ≤ x ∧ x ≤ 2000000
    omega
set_option maxRecDepth 100000 in
set_option maxHeartbeats 2000000 in
theorem rresponses_any (A : Option Addr) (cap : Nat) (l : List MFrame) (w : World) (h : FramesA w w.heap.size A l) :
    Calls Try.prog 28 #[.slice A l.length cap] w (RetLE w (respL l) (fcheckS l)) := by
  have hC := rfcheck_any A cap l w h
  rcases hv : framesB l
  · have HE := Lib.hid (show respL l = [] by unfold respL; rw [hv]; rfl)
    rw [fcheck_no hv] at hC ⊢
    have HC := Lib.hid hC
    clear hC hv
    go_enter Try.func28, Try.ntmps28
    go_wp2_with (go_at_call 23; refine HC.out.mono ?_; rintro e w1 ⟨rfl, hb1⟩)
    go_ret2
    exact RetLE.err HE.out rfl hb1
  · have HV := Lib.hid hv
    have hl := (framesB_parts hv).1
    have HE := Lib.hid (show respL l = (List.range l.length).map (respZ l) by unfold respL; rw [hv]; rfl)
    rw [fcheck_yes hv] at hC ⊢
    have HC := Lib.hid hC
    clear hC hv
    go_enter Try.func28, Try.ntmps28
    go_wp2_with (go_at_call 23; refine HC.out.mono ?_; rintro e w1 ⟨rfl, hb1⟩)
    go_loopw [5, 6] (fun v i wr => ∃ k : Nat, k ≤ l.length ∧ i = .int .i64 k ∧ OutI wr w.heap.size v ((List.range k).map (respZ l)) ∧ Below w.heap.size w wr) (fun _ i _ => l.length - (intOf i).toNat)
    case atStart => exact ⟨0, Nat.zero_le _, rfl, OutI.nil _ _, hb1⟩
    case round =>
      clear hb1
      obtain ⟨k, hk, rfl, hOut, hbw⟩ := hrel
      have hlen : ((List.range k).map (respZ l)).length ≤ 40 := by simp; omega
      have hlen2 : ((List.range k).map (respZ l)).length = k := by simp
      have HSN := Lib.hid (show (List.range (k + 1)).map (respZ l) = (List.range k).map (respZ l) ++ [respZ l k] by rw [List.range_succ, List.map_append]; rfl)
      generalize hL : (List.range k).map (respZ l) = L at *
      have HL := Lib.hid hL
      have HL2 := Lib.hid hlen2
      clear hL hlen2
      obtain ⟨Ab, cb, rfl, hcb, _⟩ := hOut.lenV
      have hsz := hbw.size
      by_cases hlt : k < l.length
      · have hi : l[k]? = some l[k] := List.getElem?_eq_getElem hlt
        have hxb := respZ_bd HV.out hlt
        generalize hx : respZ l k = x at *
        have hR := rresponse_any A cap l k l[k] wr ((h.keep hbw).more hsz) HV.out hi hlt hx
        have HR := Lib.hid hR
        clear hR hx hi
        go_wp2_with (first
          | (go_at_call 68; refine HR.out.mono ?_; rintro e w3 ⟨rfl, hb3⟩; have hO3 : OutI (w3.alloc (.cells #[.int .i64 x] 3)) w.heap.size _ _ := World.ownsRow.alloc (own_below hOut hb3 (fun g hg => (own_block_lt hOut g hg).2)) _)
          | (at_builtin; refine app_int _ rfl _ _ rfl w.heap.size _ _ rfl hO3 w3.heap.size x rfl (newcell _ _ _ _) (by omega) (by simp; have := hb3.size; omega) ?_; intro v' w6 hO6 hg6))
        go_roundw
        case rel =>
          refine ⟨k + 1, by omega, by go_num, by rw [HSN.out]; exact hO6, ?_⟩
          have a2 := hb3.size
          exact (hbw.trans (hb3.mono (by omega))).trans ((((Below.refl _ _).alloc (by omega) _)).grown hg6 (by simp; omega) (fun g hg => (own_block_lt hO3 g hg).1))
        case measure => simp [intOf]; omega
      · obtain rfl : k = l.length := by omega
        go_wp2_with fail
        go_ret2
        exact RetLE.out (by rw [HE.out, HL.out]) hbw hOut

/-- what Response answers: the response, the error -/
def respOut (l : List MFrame) (frame : Int) : Int × Int :=
  if framesB l = false then (0, 40) else if inB frame 0 ((l.length : Int) - 1) = false then (0, 1) else
  match respI l frame.toNat with
  | none => (0, 41)
  | some n => (n, 0)
theorem respOut_none {l : List MFrame} {i : Nat} (hv : framesB l = true) (hil : i < l.length) (h : respI l i = none) : respOut l (i : Int) = (0, 41) := by
  unfold respOut
  rw [if_neg (by rw [hv]; simp), if_neg (by rw [inB_iff'.2 (by omega)]; simp), Int.toNat_natCast, h]
theorem respOut_some {l : List MFrame} {i : Nat} {x : Int} (hv : framesB l = true) (hil : i < l.length) (h : respI l i = some x) : respOut l (i : Int) = (x, 0) := by
  unfold respOut
  rw [if_neg (by rw [hv]; simp), if_neg (by rw [inB_iff'.2 (by omega)]; simp), Int.toNat_natCast, h]
theorem respI_nn {l : List MFrame} (hv : framesB l = true) {i : Nat} (hil : i < l.length) {x : Int} (h : respI l i = some x) : 0 ≤ x ∧ x ≤ 2000000 := by
  have hi : l[i]? = some l[i] := List.getElem?_eq_getElem hil
  rw [respI_of hi] at h
  exact respS_bd hi (framesF hv i _ hi) h
set_option maxRecDepth 100000 in
set_option maxHeartbeats 2000000 in
theorem rresp_any (A : Option Addr) (cap : Nat) (l : List MFrame) (frame : Int) (w : World) (h : FramesA w w.heap.size A l) {x c : Int} (hp : respOut l frame = (x, c)) :
    Calls Try.prog 27 #[.slice A l.length cap, .int .i64 frame] w fun e w' => e = .returned (.tuple #[.int .i64 x, .int .i64 c]) ∧ Below w.heap.size w w' := by
  have hC := rfcheck_any A cap l w h
  rcases hv : framesB l
  · unfold respOut at hp
    rw [if_pos hv] at hp
    injection hp with h1 h2
    subst h1
    subst h2
    rw [fcheck_no hv] at hC
    have HC := Lib.hid hC
    clear hC hv
    go_enter Try.func27, Try.ntmps27
    go_wp2_with (go_at_call 23; refine HC.out.mono ?_; rintro e w1 ⟨rfl, hb1⟩)
    go_ret2
    exact ⟨rfl, hb1⟩
  · rw [fcheck_yes hv] at hC
    have HC := Lib.hid hC
    have hl := (framesB_parts hv).1
    rcases hin : inB frame 0 ((l.length : Int) - 1)
    · unfold respOut at hp
      rw [if_neg (by rw [hv]; simp), if_pos hin] at hp
      injection hp with h1 h2
      subst h1
      subst h2
      have HN := Lib.hid hin
      clear hC hv hin
      go_enter Try.func27, Try.ntmps27
      go_wp2_with (first | (go_at_call 23; refine HC.out.mono ?_; rintro e w1 ⟨rfl, hb1⟩) | (go_at_call 64; refine (rwithin_b _ _ _ _ _ HN.out).mono ?_; rintro e w' ⟨rfl, rfl⟩))
      go_ret2
      exact ⟨rfl, hb1⟩
    · have hrange := inB_iff'.1 hin
      obtain ⟨i, rfl⟩ := Int.eq_ofNat_of_zero_le hrange.1
      have hil : i < l.length := by omega
      have hi : l[i]? = some l[i] := List.getElem?_eq_getElem hil
      have hR : ∀ w1, Below w.heap.size w w1 → ∀ z, respZ l i = z → Calls Try.prog 68 #[.slice A l.length cap, .int .i64 i] w1 fun e w' => e = .returned (.int .i64 z) ∧ Below w1.heap.size w1 w' := fun w1 hb z hz => rresponse_any A cap l i l[i] w1 ((h.keep hb).more hb.size) hv hi hil hz
      have HN := Lib.hid hin
      have HR := Lib.hid hR
      rcases ho : respI l i with _ | y
      · have e1 := respOut_none hv hil ho
        rw [e1] at hp
        injection hp with h1 h2
        subst h1
        subst h2
        have HZ : Hid (respZ l i = -1) := by show _ = _; unfold respZ; rw [ho]; rfl
        clear hC hv hin hR hi ho e1
        go_enter Try.func27, Try.ntmps27
        go_wp2_with (first | (go_at_call 23; refine HC.out.mono ?_; rintro e w1 ⟨rfl, hb1⟩) | (go_at_call 64; refine (rwithin_b _ _ _ _ _ HN.out).mono ?_; rintro e w' ⟨rfl, rfl⟩) | (go_at_call 68; refine (HR.out _ hb1 _ HZ.out).mono ?_; rintro e w2 ⟨rfl, hb2⟩))
        go_ret2
        exact ⟨rfl, hb1.trans (hb2.mono hb1.size)⟩
      · have e1 := respOut_some hv hil ho
        rw [e1] at hp
        injection hp with h1 h2
        subst h1
        subst h2
        have hyb := respI_nn hv hil ho
        have HZ : Hid (respZ l i = y) := by show _ = _; unfold respZ; rw [ho]; rfl
        clear hC hv hin hR hi ho e1
        go_enter Try.func27, Try.ntmps27
        go_wp2_with (first | (go_at_call 23; refine HC.out.mono ?_; rintro e w1 ⟨rfl, hb1⟩) | (go_at_call 64; refine (rwithin_b _ _ _ _ _ HN.out).mono ?_; rintro e w' ⟨rfl, rfl⟩) | (go_at_call 68; refine (HR.out _ hb1 _ HZ.out).mono ?_; rintro e w2 ⟨rfl, hb2⟩))
        go_ret2
        exact ⟨rfl, hb1.trans (hb2.mono hb1.size)⟩

def lateB (l : List MFrame) (i : Nat) : Bool := decide (respZ l i < 0) || decide ((l.getD i ⟨0, 0, 0, 0, 0⟩).due < respZ l i)
theorem lateB_of {l : List MFrame} {i : Nat} {f : MFrame} (h : l[i]? = some f) : lateB l i = (decide (respZ l i < 0) || decide (f.due < respZ l i)) := by
  unfold lateB; rw [List.getD_eq_getElem?_getD, h]; rfl
def lateTo (l : List MFrame) (k : Nat) : List Int := ((List.range k).filter (lateB l)).map fun (j : Nat) => (j : Int)
theorem lateTo_succ (l : List MFrame) (k : Nat) : lateTo l (k + 1) = lateTo l k ++ if lateB l k = true then [(k : Int)] else [] := by
  unfold lateTo
  rw [List.range_succ, List.filter_append, List.map_append]
  rcases hb : lateB l k <;> simp [hb]
theorem lateTo_len (l : List MFrame) (k : Nat) : (lateTo l k).length ≤ k := by
  unfold lateTo
  rw [List.length_map]
  have := List.length_filter_le (lateB l) (List.range k)
  rw [List.length_range] at this
  exact this
def lateL (l : List MFrame) : List Int := if framesB l = true then lateTo l l.length else []
set_option maxRecDepth 100000 in
set_option maxHeartbeats 2000000 in
theorem rlate_any (A : Option Addr) (cap : Nat) (l : List MFrame) (i : Nat) (w : World) (h : FramesA w w.heap.size A l) (hv : framesB l = true) (hil : i < l.length) {r : Bool} (hr : lateB l i = r) :
    Calls Try.prog 69 #[.slice A l.length cap, .int .i64 i] w fun e w' => e = .returned (.bool r) ∧ Below w.heap.size w w' := by
  have hl := (framesB_parts hv).1
  have hi : l[i]? = some l[i] := List.getElem?_eq_getElem hil
  have hxb := respZ_bd hv hil
  rw [lateB_of hi] at hr
  have HFR : Hid (∀ w1, Below w.heap.size w w1 → ∃ b off, A = some ⟨b, off, none⟩ ∧ b < w.heap.size ∧ w1.cell? ⟨b, off + i * 5 + 3, none⟩ = some (.int .i64 l[i].due)) := fun w1 hb => by
    obtain ⟨b, off, hA, hlt, _, _, _, d3, _⟩ := (h.keep hb).sizeAt hi hil
    exact ⟨b, off, hA, hlt, d3⟩
  obtain ⟨x, hx⟩ : ∃ x, respZ l i = x := ⟨_, rfl⟩
  have HR := Lib.hid (rresponse_any A cap l i l[i] w h hv hi hil hx)
  rw [hx] at hr hxb
  clear hx hi hv
  generalize l[i].due = d at *
  subst hr
  by_cases hneg : x < 0
  · have HE : Hid ((decide (x < 0) || decide (d < x)) = true) := by show _ = _; rw [decide_eq_true hneg]; rfl
    go_enter Try.func69, Try.ntmps69
    go_wp2_with (go_at_call 68; refine HR.out.mono ?_; rintro e w1 ⟨rfl, hb1⟩)
    go_ret
    exact ⟨ret_b HE.out.symm, hb1⟩
  · have HE : Hid ((decide (x < 0) || decide (d < x)) = decide (d < x)) := by show _ = _; rw [decide_eq_false hneg]; rfl
    go_enter Try.func69, Try.ntmps69
    go_wp2_with (go_at_call 68; refine HR.out.mono ?_; rintro e w1 ⟨rfl, hb1⟩; obtain ⟨b, off, rfl, hlt, d3⟩ := HFR.out _ hb1)
    go_ret
    exact ⟨by first | rfl | exact ret_b HE.out.symm, hb1⟩
set_option maxRecDepth 100000 in
set_option maxHeartbeats 2000000 in
theorem rLate_any (A : Option Addr) (cap : Nat) (l : List MFrame) (w : World) (h : FramesA w w.heap.size A l) :
    Calls Try.prog 30 #[.slice A l.length cap] w (RetLE w (lateL l) (fcheckS l)) := by
  have hC := rfcheck_any A cap l w h
  rcases hv : framesB l
  · have HE := Lib.hid (show lateL l = [] by unfold lateL; rw [hv]; rfl)
    rw [fcheck_no hv] at hC ⊢
    have HC := Lib.hid hC
    clear hC hv
    go_enter Try.func30, Try.ntmps30
    go_wp2_with (go_at_call 23; refine HC.out.mono ?_; rintro e w1 ⟨rfl, hb1⟩)
    go_ret2
    exact RetLE.err HE.out rfl hb1
  · have HV := Lib.hid hv
    have hl := (framesB_parts hv).1
    have HE := Lib.hid (show lateL l = lateTo l l.length by unfold lateL; rw [hv]; rfl)
    rw [fcheck_yes hv] at hC ⊢
    have HC := Lib.hid hC
    clear hC hv
    go_enter Try.func30, Try.ntmps30
    go_wp2_with (go_at_call 23; refine HC.out.mono ?_; rintro e w1 ⟨rfl, hb1⟩)
    go_loopw [5, 6] (fun v i wr => ∃ k : Nat, k ≤ l.length ∧ i = .int .i64 k ∧ OutI wr w.heap.size v (lateTo l k) ∧ Below w.heap.size w wr) (fun _ i _ => l.length - (intOf i).toNat)
    case atStart => exact ⟨0, Nat.zero_le _, rfl, OutI.nil _ _, hb1⟩
    case round =>
      clear hb1
      obtain ⟨k, hk, rfl, hOut, hbw⟩ := hrel
      have hlen := lateTo_len l k
      have HSN := Lib.hid (lateTo_succ l k)
      generalize hL : lateTo l k = L at *
      have HL := Lib.hid hL
      clear hL
      obtain ⟨Ab, cb, rfl, hcb, _⟩ := hOut.lenV
      have hsz := hbw.size
      by_cases hlt : k < l.length
      · rcases hx : lateB l k
        · have hR := rlate_any A cap l k wr ((h.keep hbw).more hsz) HV.out hlt hx
          have HR := Lib.hid hR
          have HX := Lib.hid hx
          clear hR hx
          go_wp2_with (go_at_call 69; refine HR.out.mono ?_; rintro e w3 ⟨rfl, hb3⟩)
          go_roundw
          case rel => exact ⟨k + 1, by omega, by go_num, by rw [HSN.out, HX.out, if_neg (by simp), List.append_nil]; exact own_below hOut hb3 (fun g hg => (own_block_lt hOut g hg).2), hbw.trans (hb3.mono hsz)⟩
          case measure => simp [intOf]; omega
        · have hR := rlate_any A cap l k wr ((h.keep hbw).more hsz) HV.out hlt hx
          have HR := Lib.hid hR
          have HX := Lib.hid hx
          clear hR hx
          go_wp2_with (first
            | (go_at_call 69; refine HR.out.mono ?_; rintro e w3 ⟨rfl, hb3⟩; have hO3 : OutI (w3.alloc (.cells #[.int .i64 (k : Int)] 3)) w.heap.size _ _ := World.ownsRow.alloc (own_below hOut hb3 (fun g hg => (own_block_lt hOut g hg).2)) _)
            | (at_builtin; refine app_int _ rfl _ _ rfl w.heap.size _ _ rfl hO3 w3.heap.size (k : Int) rfl (newcell _ _ _ _) (by omega) (by simp; have := hb3.size; omega) ?_; intro v' w6 hO6 hg6))
          go_roundw
          case rel =>
            refine ⟨k + 1, by omega, by go_num, by rw [HSN.out, HX.out]; exact hO6, ?_⟩
            have a2 := hb3.size
            exact (hbw.trans (hb3.mono (by omega))).trans ((((Below.refl _ _).alloc (by omega) _)).grown hg6 (by simp; omega) (fun g hg => (own_block_lt hO3 g hg).1))
          case measure => simp [intOf]; omega
      · obtain rfl : k = l.length := by omega
        go_wp2_with fail
        go_ret2
        exact RetLE.out (by rw [HE.out, HL.out]) hbw hOut
end Go.Proofs.Ytlbbhlkbhegegaa
