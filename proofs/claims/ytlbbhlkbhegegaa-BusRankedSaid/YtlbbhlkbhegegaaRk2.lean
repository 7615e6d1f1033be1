/- Walks: bus.lowest, Rank. -/
import Derived.Test.YtlbbhlkbhegegaaRk1
import Derived.Test.YtlbbhlkbhegegaaRp1
import Derived.Test.YtlbbhlkbhegegaaOrd
namespace Go.Proofs.Ytlbbhlkbhegegaa
open Go.RowKit

def okLow (l : List MFrame) (R : Nat → Int) (i : Nat) : Bool := match respS l (abR R i) i with
  | none => false
  | some n => decide (n ≤ (l.getD i ⟨0, 0, 0, 0, 0⟩).due)
def lowB (l : List MFrame) (R : Nat → Int) (i : Nat) : Bool := decide (R i < 0) && okLow l R i
def nextLow (l : List MFrame) (R : Nat → Int) : Option Nat := (List.range l.length).find? (lowB l R)
def updR (R : Nat → Int) (i : Nat) (x : Int) (k : Nat) : Int := if k = i then x else R k
def rankGo (l : List MFrame) : Nat → (Nat → Int) → Option (Nat → Int)
  | 0, R => some R
  | r + 1, R => match nextLow l R with
    | none => none
    | some i => rankGo l r (updR R i r)
theorem rankGo_none {l : List MFrame} {r : Nat} {R : Nat → Int} (h : nextLow l R = none) : rankGo l (r + 1) R = none := by rw [rankGo, h]
theorem rankGo_some {l : List MFrame} {r i : Nat} {R : Nat → Int} (h : nextLow l R = some i) : rankGo l (r + 1) R = rankGo l r (updR R i r) := by rw [rankGo, h]
/-- what Rank answers: the ranks, the error -/
def rankOut (l : List MFrame) : List Int × Int := if framesB l = false then ([], 40) else match rankGo l l.length (fun _ => -1) with
  | none => ([], 42)
  | some R => ((List.range l.length).map R, 0)

set_option maxRecDepth 100000 in
set_option maxHeartbeats 2000000 in
theorem lowest_b (A : Option Addr) (cap gr rcap : Nat) (l : List MFrame) (R : Nat → Int) (i : Nat) (w : World) (h : FramesA w w.heap.size A l) (hF : ∀ (k : Nat) (f : MFrame), l[k]? = some f → FOk f) (hl : l.length ≤ 40) (hil : i < l.length)
    (hG : OwnF w gr 3 l.length (fun k => .int .i64 (R k))) {r : Bool} (hr : lowB l R i = r) :
    Calls Try.prog 71 #[.slice A l.length cap, .int .i64 i, .slice (some ⟨gr, 0, none⟩) l.length rcap] w fun e w' => e = .returned (.bool r) ∧ Below w.heap.size w w' := by
  have hi : l[i]? = some l[i] := List.getElem?_eq_getElem hil
  have hgl := hG.lt
  have hRi := hG.cell hil
  by_cases h0 : 0 ≤ R i
  · have HR : Hid (r = false) := by show _ = _; rw [← hr]; unfold lowB; rw [decide_eq_false (by omega)]; rfl
    clear hr
    go_enter Try.func71, Try.ntmps71
    go_wp2
    go_ret
    exact ⟨ret_b HR.out.symm, Below.refl _ _⟩
  have HR : Hid (r = okLow l R i) := by show _ = _; rw [← hr]; unfold lowB; rw [decide_eq_true (by omega)]; rfl
  have HF := Lib.hid hF
  have HI := Lib.hid hi
  clear hr hF hi
  go_enter Try.func71, Try.ntmps71
  go_wp2_with (at_make; refine mk_bools _ rfl _ _ rfl l.length rfl rfl (by omega) ?_; intro w2 hB hb2)
  have hbl := hB.lt
  go_loopw [21] (fun v wr => ∃ k : Nat, k ≤ l.length ∧ v = .int .i64 k ∧ OwnF wr w.heap.size 4 l.length (fun j => .bool (if j < k then abR R i j else false)) ∧ Below w.heap.size w wr) (fun v _ => l.length - (intOf v).toNat)
  case atStart => exact ⟨0, Nat.zero_le _, rfl, hB.congr (fun j _ => by simp), hb2⟩
  case round =>
    clear hB hb2 hbl
    obtain ⟨k, hk, rfl, hB, hbw⟩ := hrel
    by_cases hlt : k < l.length
    · have gf := hB.frozen k
      have gc := hB.cell hlt
      have hRk := (hG.below hbw hgl).cell hlt
      have hO : ∀ b, b = abR R i k → OwnF (wr.setCell ⟨w.heap.size, k, none⟩ (.bool b)) w.heap.size 4 l.length (fun j => .bool (if j < k + 1 then abR R i j else false)) := fun b hb => (hB.set k (.bool b)).congr fun j _ => by
        by_cases h1 : j = k
        · subst h1; rw [if_pos rfl, if_pos (by omega), hb]
        · rw [if_neg h1]
          by_cases h2 : j < k
          · rw [if_pos h2, if_pos (by omega)]
          · rw [if_neg h2, if_neg (by omega)]
      have HO := Lib.hid hO
      clear hO
      by_cases hki : k = i
      · have hk1 : ((k : Int) != (i : Int)) = false := by rw [bne_eq_false_iff_eq]; omega
        have HA : Hid (false = abR R i k) := by show _ = _; unfold abR; rw [decide_eq_false (by simpa using hki)]; rfl
        clear hki
        go_wp2_with fail
        go_roundw
        case rel => exact ⟨k + 1, by omega, by go_num, HO.out _ HA.out, hbw.setCell (p := ⟨w.heap.size, k, none⟩) (Nat.le_refl _) _⟩
        case measure => simp [intOf]; omega
      · have hk1 : ((k : Int) != (i : Int)) = true := by rw [bne_iff_ne]; omega
        have HA : Hid (decide (R k < 0) = abR R i k) := by show _ = _; unfold abR; rw [decide_eq_true hki]; rfl
        go_wp2_with fail
        go_roundw
        case rel => exact ⟨k + 1, by omega, by go_num, HO.out _ HA.out, hbw.setCell (p := ⟨w.heap.size, k, none⟩) (Nat.le_refl _) _⟩
        case measure => simp [intOf]; omega
    · obtain rfl : k = l.length := by omega
      have hfr := (h.keep hbw).more hbw.size
      have hRS := response_any A cap l (abR R i) i w.heap.size l[i] wr hfr HF.out hl HI.out hil (hB.congr fun j hj => by rw [if_pos hj])
      have HD : Hid (∀ w1, Below w.heap.size w w1 → ∃ b off, A = some ⟨b, off, none⟩ ∧ b < w.heap.size ∧ w1.cell? ⟨b, off + i * 5 + 3, none⟩ = some (.int .i64 l[i].due)) := fun w1 hb => by
        obtain ⟨b, off, hA, hlt, _, _, _, d3, _⟩ := (h.keep hb).sizeAt HI.out hil
        exact ⟨b, off, hA, hlt, d3⟩
      have HOK : Hid (okLow l R i = match respS l (abR R i) i with | none => false | some n => decide (n ≤ l[i].due)) := by
        show _ = _
        have e : l.getD i ⟨0, 0, 0, 0, 0⟩ = l[i] := by rw [List.getD_eq_getElem?_getD, HI.out]; rfl
        unfold okLow
        rw [e]
      generalize l[i].due = d at *
      clear hB hfr
      rcases ho : respS l (abR R i) i with _ | n
      · rw [ho] at hRS
        have HRS := Lib.hid hRS
        have HO := Lib.hid ho
        clear hRS ho
        go_wp2_with (go_at_call 65; refine HRS.out.mono ?_; rintro e w3 ⟨rfl, hb3⟩; unfold settleV)
        go_ret
        exact ⟨ret_b (by rw [HR.out, HOK.out, HO.out]), hbw.trans (hb3.mono hbw.size)⟩
      · rw [ho] at hRS
        have HRS := Lib.hid hRS
        have HO := Lib.hid ho
        clear hRS ho
        go_wp2_with (go_at_call 65; refine HRS.out.mono ?_; rintro e w3 ⟨rfl, hb3⟩; have hbw3 := hbw.trans (hb3.mono hbw.size); obtain ⟨b, off, rfl, hlt, d3⟩ := HD.out _ hbw3; unfold settleV)
        go_ret
        exact ⟨ret_b (by rw [HR.out, HOK.out, HO.out]), hbw3⟩

set_option maxRecDepth 100000 in
set_option maxHeartbeats 2000000 in
theorem rank_any (A : Option Addr) (cap : Nat) (l : List MFrame) (w : World) (h : FramesA w w.heap.size A l) (hcap : l.length ≤ cap) {x : List Int} {c : Int} (hp : rankOut l = (x, c)) :
    Calls Try.prog 31 #[.slice A l.length cap] w (RetLE w x c) := by
  have hC := fcheck_any A cap l w h hcap
  rcases hv : framesB l
  · unfold rankOut at hp
    rw [if_pos hv] at hp
    injection hp with h1 h2
    subst h1
    subst h2
    rw [fcheck_no hv] at hC
    have HC := Lib.hid hC
    clear hC hv
    go_enter Try.func31, Try.ntmps31
    go_wp2_with (go_at_call 37; refine HC.out.mono ?_; rintro e w1 ⟨rfl, hb1⟩)
    go_ret2
    exact RetLE.err rfl rfl hb1
  · have HF := Lib.hid (framesF hv)
    have hl := (framesB_parts hv).1
    have HP : Hid ((x, c) = match rankGo l l.length (fun _ => -1) with | none => ([], 42) | some R => ((List.range l.length).map R, 0)) := by
      show _ = _
      rw [← hp]
      unfold rankOut
      rw [if_neg (by rw [hv]; simp)]
    rw [fcheck_yes hv] at hC
    have HC := Lib.hid hC
    clear hC hv hp
    have HRP : Hid (∀ w1 : World, Calls Try.prog 70 #[.slice (some ⟨w1.heap.size, 0, none⟩) 1 1, .int .i64 l.length] (w1.alloc (.cells #[.int .i64 (-1)] 3)) fun e w' => ∃ g, e = .returned (.slice (some ⟨g, 0, none⟩) l.length l.length) ∧ (w1.alloc (.cells #[.int .i64 (-1)] 3)).heap.size ≤ g ∧ OwnF w' g 3 l.length (fun _ => .int .i64 (-1)) ∧ Below (w1.alloc (.cells #[.int .i64 (-1)] 3)).heap.size (w1.alloc (.cells #[.int .i64 (-1)] 3)) w') := fun w1 => repeat_any w1.heap.size 1 l.length (-1) _ (newcell _ _ _ _) (by simp) (by omega)
    go_enter Try.func31, Try.ntmps31
    go_wp2_with (first | (go_at_call 37; refine HC.out.mono ?_; rintro e w1 ⟨rfl, hb1⟩) | (go_at_call 70; refine (HRP.out w1).mono ?_; rintro e w2 ⟨g, rfl, hg, hG, hb2⟩))
    have hbw2 : Below w.heap.size w w2 := hb1.trans (((Below.refl _ _).alloc hb1.size _).trans (hb2.mono (by simp; have := hb1.size; omega)))
    have hgw : w.heap.size ≤ g := by have := hb1.size; simp at hg; omega
    clear hb1 hb2 hg HRP HC
    go_loopw [2, 3, 6] (fun v2 v3 v wr => v2 = .slice none 0 0 ∧ v3 = .int .i64 0 ∧ ∃ (r : Nat) (R : Nat → Int), r ≤ l.length ∧ v = .int .i64 ((r : Int) - 1) ∧ Hid (rankGo l r R = rankGo l l.length (fun _ => -1)) ∧ OwnF wr g 3 l.length (fun k => .int .i64 (R k)) ∧ Below w.heap.size w wr) (fun _ _ v _ => (intOf v + 1).toNat)
    case atStart => exact ⟨rfl, rfl, l.length, fun _ => -1, Nat.le_refl _, rfl, rfl, hG, hbw2⟩
    case round =>
      clear hG hbw2
      obtain ⟨rfl, rfl, r, R, hr, rfl, HI, hG, hbw⟩ := hrel
      by_cases hr0 : 1 ≤ r
      · obtain ⟨r, rfl⟩ : ∃ r0, r = r0 + 1 := ⟨r - 1, by omega⟩
        have hrr : ((r + 1 : Nat) : Int) - 1 = (r : Int) := by omega
        rw [hrr]
        clear hrr hr0
        have hri : (0 : Int) ≤ (r : Int) := by omega
        go_wp2_with fail
        obtain ⟨wo, rfl⟩ : ∃ wo : World, wo = wr := ⟨_, rfl⟩
        go_loopw [7] (fun v wr => ∃ j : Nat, j ≤ l.length ∧ v = .int .i64 j ∧ Hid (∀ q, q < j → lowB l R q = false) ∧ Below wo.heap.size wo wr) (fun v _ => l.length - (intOf v).toNat)
        case atStart => exact ⟨0, Nat.zero_le _, rfl, fun q h => by omega, Below.refl _ _⟩
        case round =>
          obtain ⟨j, hj, rfl, HJ, hbj⟩ := hrel
          have hbb := hbw.trans (hbj.mono hbw.size)
          have hGj := hG.below hbj hG.lt
          by_cases hlt : j < l.length
          · have hfr := (h.keep hbb).more hbb.size
            rcases hx : lowB l R j
            · have HC := Lib.hid (lowest_b A cap g l.length l R j wr hfr HF.out hl hlt hGj hx)
              have HX := Lib.hid hx
              clear hx hfr hGj
              go_wp2_with (go_at_call 71; refine HC.out.mono ?_; rintro e w3 ⟨rfl, hb3⟩)
              go_roundw
              case rel => exact ⟨j + 1, by omega, by go_num, nat_snoc HJ.out HX.out, hbj.trans (hb3.mono hbj.size)⟩
              case measure => simp [intOf]; omega
            · have HC := Lib.hid (lowest_b A cap g l.length l R j wr hfr HF.out hl hlt hGj hx)
              have HN : Hid (nextLow l R = some j) := range_find_some hlt HJ.out hx
              have hjl : ((j : Int) == (l.length : Int)) = false := by rw [beq_eq_false_iff_ne]; omega
              have HOW : Hid (∀ w3, Below wr.heap.size wr w3 → OwnF w3 g 3 l.length (fun k => .int .i64 (R k))) := fun w3 hb => hGj.below hb hGj.lt
              clear hx hfr hGj
              go_wp2_with (go_at_call 71; refine HC.out.mono ?_; rintro e w3 ⟨rfl, hb3⟩; have hG3 := HOW.out _ hb3; have gf := hG3.frozen j; have gc := hG3.cell hlt)
              go_roundw
              case rel =>
                refine ⟨rfl, rfl, r, updR R j r, by omega, by go_num, ?_, (hG3.set j (.int .i64 r)).congr fun k _ => ?_, (hbb.trans (hb3.mono hbb.size)).setCell (p := ⟨g, j, none⟩) hgw _⟩
                · show _ = _
                  rw [← HI.out, rankGo_some HN.out]
                · unfold updR
                  by_cases hk : k = j
                  · rw [if_pos hk, if_pos hk]
                  · rw [if_neg hk, if_neg hk]
              case measure => simp [intOf]
          · have hje : j = l.length := (by omega)
            subst hje
            have HN : Hid (nextLow l R = none) := range_find_none HJ.out
            have hjl : ((l.length : Int) == (l.length : Int)) = true := by simp
            go_wp2_with fail
            go_ret2
            have e1 : (x, c) = ([], 42) := by rw [HP.out, ← HI.out, rankGo_none HN.out]
            injection e1 with e2 e3
            subst e2
            subst e3
            exact RetLE.err rfl rfl hbb
      · obtain rfl : r = 0 := by omega
        have hneg : ((0 : Nat) : Int) - 1 < 0 := by omega
        go_wp2_with fail
        go_ret2
        have e1 : (x, c) = ((List.range l.length).map R, 0) := by rw [HP.out, ← HI.out, rankGo]
        injection e1 with e2 e3
        subst e2
        subst e3
        refine ⟨hbw, some ⟨g, 0, none⟩, l.length, by simp, by simp, ?_⟩
        have hlr : ((List.range l.length).map R).length = l.length := by simp
        refine OwnF.ints (T := 3) ?_ (by rw [hlr]; unfold maxLen; omega)
        rw [hlr]
        exact hG.congr fun j hj => by simp [List.getD_eq_getElem?_getD, hj]
end Go.Proofs.Ytlbbhlkbhegegaa
