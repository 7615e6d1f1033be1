/- Walks: bus.Responses. -/
import Derived.Test.YtlbbhlkbhegegaaR6
import Derived.Test.YtlbbhlkbhegegaaR7
namespace Go.Proofs.Ytlbbhlkbhegegaa
open Go.RowKit

/-- the response of frame i: none, it has none -/
def respI (l : List MFrame) (i : Nat) : Option Int := respS l (higherB l (l.getD i ⟨0, 0, 0, 0, 0⟩).rank) i
theorem respI_of {l : List MFrame} {i : Nat} {own : MFrame} (h : l[i]? = some own) : respI l i = respS l (higherB l own.rank) i := by
  unfold respI; rw [List.getD_eq_getElem?_getD, h]; rfl
def respZ (l : List MFrame) (i : Nat) : Int := (respI l i).getD (-1)
def respL (l : List MFrame) : List Int := if framesB l = true then (List.range l.length).map (respZ l) else []
theorem longTo_bd {l : List MFrame} {ab : Nat → Bool} {block : Int} {own : MFrame} (hO : FOk own) : ∀ (q : Nat) (x : Int), longTo l ab block own q = some x → 0 ≤ x ∧ x ≤ 2000000
  | 0, x, h => by rw [longTo] at h; injection h with h; omega
  | q + 1, x, h => by
    rw [longTo] at h
    rcases h1 : longTo l ab block own q with _ | m
    · rw [h1] at h; cases h
    · rw [h1] at h
      have hm := longTo_bd hO q m h1
      rcases h2 : settleS (waitS l ab block own q) 1000002 (block + q * own.size) with _ | y
      · simp only [h2] at h; cases h
      · simp only [h2] at h
        injection h with h
        have h3 := (settle_fix _ _ h2).2
        have h4 : 0 ≤ (q : Int) * own.every := Int.mul_nonneg (by omega) (by have := hO.2.1; omega)
        have h5 := hO.1
        have h6 := hO.2.2.2.1
        omega
theorem respS_bd {l : List MFrame} {ab : Nat → Bool} {i : Nat} {own : MFrame} (hi : l[i]? = some own) (hO : FOk own) {x : Int} (h : respS l ab i = some x) : 0 ≤ x ∧ x ≤ 2000000 := by
  have e : l.getD i ⟨0, 0, 0, 0, 0⟩ = own := by rw [List.getD_eq_getElem?_getD, hi]; rfl
  simp only [respS, e] at h
  rcases h1 : settleS (busyS l ab (blockTo l ab i l.length) own) 1000002 1 with _ | b
  · rw [h1] at h; cases h
  · rw [h1] at h
    exact longTo_bd hO _ _ h
/-- what a function hands back that answers a list of ints and an error -/
def RetLE (w : World) (l : List Int) (c : Int) (e : Ending) (w' : World) : Prop :=
  Below w.heap.size w w' ∧ ∃ A cap, e = .returned (.tuple #[.slice A l.length cap, .int .i64 c]) ∧ l.length ≤ cap ∧ IntsA w' w'.heap.size A l
theorem RetLE.err {w w' : World} {c c' : Int} {l : List Int} (hl : l = []) (hc : c' = c) (hb : Below w.heap.size w w') : RetLE w l c (.returned (.tuple #[.slice none 0 0, .int .i64 c'])) w' := by
  subst hl
  subst hc
  exact ⟨hb, none, 0, rfl, Nat.le_refl _, by simp, fun h => by simp at h⟩
theorem RetLE.out {w w' : World} {base : Nat} {v : Value} {l l' : List Int} (hl : l = l') (hb : Below w.heap.size w w') (h : OutI w' base v l) : RetLE w l' 0 (.returned (.tuple #[v, .int .i64 0])) w' := by
  subst hl
  obtain ⟨A, cap, rfl, h1, h2⟩ := h.reads
  exact ⟨hb, A, cap, rfl, h1, h2⟩
theorem framesF {l : List MFrame} (h : framesB l = true) : ∀ (k : Nat) (f : MFrame), l[k]? = some f → FOk f := fun k f hf => by
  have h1 := (framesB_parts h).2 k f hf
  exact ⟨h1.1, h1.2.1, h1.2.2.1, h1.2.2.2.1, by omega, h1.2.2.2.2.2⟩

set_option maxRecDepth 100000 in
set_option maxHeartbeats 2000000 in
theorem responses_any (A : Option Addr) (cap : Nat) (l : List MFrame) (w : World) (h : FramesA w w.heap.size A l) (hcap : l.length ≤ cap) :
    Calls Try.prog 25 #[.slice A l.length cap] w (RetLE w (respL l) (fcheckS l)) := by
  have hC := fcheck_any A cap l w h hcap
  rcases hv : framesB l
  · have HE := Lib.hid (show respL l = [] by unfold respL; rw [hv]; rfl)
    rw [fcheck_no hv] at hC ⊢
    have HC := Lib.hid hC
    clear hC hv
    go_enter Try.func25, Try.ntmps25
    go_wp2_with (go_at_call 37; refine HC.out.mono ?_; rintro e w1 ⟨rfl, hb1⟩)
    go_ret2
    exact RetLE.err HE.out rfl hb1
  · have HF := Lib.hid (framesF hv)
    have hl := (framesB_parts hv).1
    have HE := Lib.hid (show respL l = (List.range l.length).map (respZ l) by unfold respL; rw [hv]; rfl)
    rw [fcheck_yes hv] at hC ⊢
    have HC := Lib.hid hC
    clear hC hv
    go_enter Try.func25, Try.ntmps25
    go_wp2_with (go_at_call 37; refine HC.out.mono ?_; rintro e w1 ⟨rfl, hb1⟩)
    go_loopw [2, 15] (fun v i wr => ∃ k : Nat, k ≤ l.length ∧ i = .int .i64 k ∧ OutI wr w.heap.size v ((List.range k).map (respZ l)) ∧ Below w.heap.size w wr) (fun _ i _ => l.length - (intOf i).toNat)
    case atStart => exact ⟨0, Nat.zero_le _, rfl, OutI.nil _ _, hb1⟩
    case round =>
      clear hb1
      obtain ⟨k, hk, rfl, hOut, hbw⟩ := hrel
      have hlen : ((List.range k).map (respZ l)).length ≤ 40 := by simp; omega
      have hlen2 : ((List.range k).map (respZ l)).length = k := by simp
      have HSN := Lib.hid (show (List.range (k + 1)).map (respZ l) = (List.range k).map (respZ l) ++ [respZ l k] by rw [List.range_succ, List.map_append]; rfl)
      generalize hL : (List.range k).map (respZ l) = L at *
      have HL := Lib.hid hL
      have HL2 := Lib.hid hlen2
      clear hL hlen2
      obtain ⟨Ab, cb, rfl, hcb, _⟩ := hOut.lenV
      have hsz := hbw.size
      by_cases hlt : k < l.length
      · have hi : l[k]? = some l[k] := List.getElem?_eq_getElem hlt
        generalize l[k] = own at hi
        have hfr := (h.keep hbw).more hsz
        have hH := higher_any A cap l k own wr hfr hl hi hlt
        have hR : ∀ gb w1, Below wr.heap.size wr w1 → OwnF w1 gb 4 l.length (fun j => .bool (higherB l own.rank j)) → Calls Try.prog 65 #[.slice A l.length cap, .int .i64 k, .slice (some ⟨gb, 0, none⟩) l.length l.length] w1 fun e w' => e = .returned (settleV (respS l (higherB l own.rank) k)) ∧ Below w1.heap.size w1 w' :=
          fun gb w1 hb hG => response_any A cap l (higherB l own.rank) k gb own w1 ((hfr.keep hb).more hb.size) HF.out hl hi hlt hG
        have HZ : Hid (respZ l k = (respS l (higherB l own.rank) k).getD (-1)) := by show _ = _; rw [respZ, respI_of hi]
        have hO := HF.out k own hi
        have HI := Lib.hid hi
        rcases ho : respS l (higherB l own.rank) k with _ | x
        · rw [ho] at hR
          have HR := Lib.hid hR
          have HH := Lib.hid hH
          have HX := Lib.hid (show respZ l k = -1 by rw [HZ.out, ho]; rfl)
          clear hR hH ho hi hO
          go_wp2_with (first
            | (go_at_call 66; refine HH.out.mono ?_; rintro e w2 ⟨gb, rfl, hgb, hG, hb2⟩)
            | (go_at_call 65; refine (HR.out _ _ hb2 hG).mono ?_; rintro e w3 ⟨rfl, hb3⟩; unfold settleV; have hO3 : OutI (w3.alloc (.cells #[.int .i64 (-1)] 3)) w.heap.size _ _ := World.ownsRow.alloc (own_below hOut (hb2.trans (hb3.mono hb2.size)) (fun g hg => (own_block_lt hOut g hg).2)) _)
            | (at_builtin; refine app_int _ rfl _ _ rfl w.heap.size _ _ rfl hO3 w3.heap.size (-1) rfl (newcell _ _ _ _) (by omega) (by simp; have := hb2.size; have := hb3.size; omega) ?_; intro v' w6 hO6 hg6))
          go_roundw
          case rel =>
            refine ⟨k + 1, by omega, by go_num, by rw [HSN.out, HX.out]; exact hO6, ?_⟩
            have a1 := hb2.size
            have a2 := hb3.size
            exact ((hbw.trans (hb2.mono hsz)).trans (hb3.mono (by omega))).trans ((((Below.refl _ _).alloc (by omega) _)).grown hg6 (by simp; omega) (fun g hg => (own_block_lt hO3 g hg).1))
          case measure => simp [intOf]; omega
        · rw [ho] at hR
          have HR := Lib.hid hR
          have HH := Lib.hid hH
          have HX := Lib.hid (show respZ l k = x by rw [HZ.out, ho]; rfl)
          have hxb := respS_bd hi hO ho
          clear hR hH ho hi hO
          go_wp2_with (first
            | (go_at_call 66; refine HH.out.mono ?_; rintro e w2 ⟨gb, rfl, hgb, hG, hb2⟩)
            | (go_at_call 65; refine (HR.out _ _ hb2 hG).mono ?_; rintro e w3 ⟨rfl, hb3⟩; unfold settleV; have hO3 : OutI (w3.alloc (.cells #[.int .i64 x] 3)) w.heap.size _ _ := World.ownsRow.alloc (own_below hOut (hb2.trans (hb3.mono hb2.size)) (fun g hg => (own_block_lt hOut g hg).2)) _)
            | (at_builtin; refine app_int _ rfl _ _ rfl w.heap.size _ _ rfl hO3 w3.heap.size x rfl (newcell _ _ _ _) (by omega) (by simp; have := hb2.size; have := hb3.size; omega) ?_; intro v' w6 hO6 hg6))
          go_roundw
          case rel =>
            refine ⟨k + 1, by omega, by go_num, by rw [HSN.out, HX.out]; exact hO6, ?_⟩
            have a1 := hb2.size
            have a2 := hb3.size
            exact ((hbw.trans (hb2.mono hsz)).trans (hb3.mono (by omega))).trans ((((Below.refl _ _).alloc (by omega) _)).grown hg6 (by simp; omega) (fun g hg => (own_block_lt hO3 g hg).1))
          case measure => simp [intOf]; omega
      · obtain rfl : k = l.length := by omega
        go_wp2_with fail
        go_ret2
        exact RetLE.out (by rw [HE.out, HL.out]) hbw hOut
end Go.Proofs.Ytlbbhlkbhegegaa
