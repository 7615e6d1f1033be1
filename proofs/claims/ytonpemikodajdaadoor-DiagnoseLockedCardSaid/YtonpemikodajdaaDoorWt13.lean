/- Walk: diagnose.Watch, from what tick does with each row. -/
import Derived.Test.YtonpemikodajdaaDoorWt11
import Derived.Test.YtonpemikodajdaaDoorWt12
import Derived.Test.YtonpemikodajdaaDoorWt5
import Derived.Deep.RegionHeld3
import Derived.Deep.Cut
namespace Go.Proofs.YtonpemikodajdaaDoor
open Go.RowKit

def TickC (l : List MMon) (t : Int) (row : List Int) (s s' : WSt) : Prop :=
  ∀ (w : World) (B wb : Nat) (A : Option Addr) (lc cb kb : Nat) (R : Option Addr) (rc : Nat), WT w B wb A lc l t cb kb s → IntsA w B R row →
    Calls Tryd.prog 53 #[.pointer (some ⟨wb, 0, none⟩), .slice R row.length rc] w fun e w' => e = .returned (.tuple #[]) ∧ WT w' B wb A lc l (t + 1) cb kb s' ∧ Below B w w'
def watchE (l : List MMon) (rs : List (List Int)) : Int := if monsB l = true then (if rs.length > 500 then 2 else if rs.all (lawB l) = true then 0 else 1) else 100
def zeroMem : Value := .agg #[.int .i64 0, .slice none 0 0, .slice none 0 0, .slice none 0 0]
def WatchPost (w : World) (l : List MMon) (rs : List (List Int)) (s : WSt) (e : Ending) (w' : World) : Prop :=
  Below w.heap.size w w' ∧ ((∃ r, watchE l rs = r ∧ r ≠ 0 ∧ e = .returned (.tuple #[zeroMem, .int .i64 r])) ∨
    (watchE l rs = 0 ∧ ∃ A lc wb cb kb V K, e = .returned (.tuple #[.agg #[.int .i64 rs.length, .slice (some ⟨cb, 0, none⟩) l.length l.length, .slice (some ⟨kb, 0, none⟩) l.length l.length, V], .int .i64 0]) ∧
      K.map Prod.fst = s.ks ∧ WS w' (w.heap.size + 2) wb A lc l rs.length cb s.ns kb s.cs V K))
theorem row_cell {w : World} {g : Nat} {cs : Array Value} {t : TypeId} (h : w.heap[g]? = some (.cells cs t (0, 0))) (k : Nat) : w.cell? ⟨g, k, none⟩ = cs[k]? := cell_of_row w g k _ t (0, 0) h
theorem row_frozen {w : World} {g : Nat} {cs : Array Value} {t : TypeId} (h : w.heap[g]? = some (.cells cs t (0, 0))) (k : Nat) : w.frozen? ⟨g, k, none⟩ = false := by simp [World.frozen?, h]
theorem put4 {w : World} {g : Nat} {a b c d a' b' c' d' : Value} (h : w.heap[g]? = some (.cells #[a, b, c, d] 27 (0, 0))) :
    ((((w.setCell ⟨g, 0, none⟩ a').setCell ⟨g, 1, none⟩ b').setCell ⟨g, 2, none⟩ c').setCell ⟨g, 3, none⟩ d').heap[g]? = some (.cells #[a', b', c', d'] 27 (0, 0)) := by
  rw [heap_setCell_same _ g 3 _ 27 _ (heap_setCell_same _ g 2 _ 27 _ (heap_setCell_same _ g 1 _ 27 _ (heap_setCell_same w g 0 _ 27 _ h)))]
  simp
theorem below_put4 {w w1 : World} {B g : Nat} (hb : Below B w w1) (hg : B ≤ g) (a b c d : Value) : Below B w ((((w1.setCell ⟨g, 0, none⟩ a).setCell ⟨g, 1, none⟩ b).setCell ⟨g, 2, none⟩ c).setCell ⟨g, 3, none⟩ d) :=
  (((hb.setCell (p := ⟨g, 0, none⟩) hg _).setCell (p := ⟨g, 1, none⟩) hg _).setCell (p := ⟨g, 2, none⟩) hg _).setCell (p := ⟨g, 3, none⟩) hg _
theorem heap_put4 {w1 : World} {g b : Nat} (hb : b ≠ g) (u0 u1 u2 u3 : Value) : ((((w1.setCell ⟨g, 0, none⟩ u0).setCell ⟨g, 1, none⟩ u1).setCell ⟨g, 2, none⟩ u2).setCell ⟨g, 3, none⟩ u3).heap[b]? = w1.heap[b]? :=
  (Below.heap_setCell _ ⟨g, 3, none⟩ _ b hb).trans ((Below.heap_setCell _ ⟨g, 2, none⟩ _ b hb).trans ((Below.heap_setCell _ ⟨g, 1, none⟩ _ b hb).trans (Below.heap_setCell _ ⟨g, 0, none⟩ _ b hb)))
theorem results_mem2 {fn : Func} {p u : Tmp} (h : fn.results = #[.cell p 27, .tmp u]) (tmps : Array Value) (w : World) (g : Nat) (a b c d v : Value)
    (hp : tmps.getD p undef = .pointer (some ⟨g, 0, none⟩)) (hg : w.heap[g]? = some (.cells #[a, b, c, d] 27 (0, 0))) (hu : tmps.getD u undef = v) :
    (results fn tmps).run Tryd.prog w = .ok (.tuple #[.agg #[a, b, c, d], v]) w := by
  obtain ⟨f, hd⟩ := mem_under
  rw [results_cell_tmp h, hp, hu]
  simp [asAddr, run_loadVar_row w g 27 27 _ (0, 0) (.struct f) hg hd rfl mem_info]
theorem WS.moved {w w' : World} {B wb : Nat} {A : Option Addr} {lc : Nat} {l : List MMon} {tick : Int} {cb : Nat} {ns : List Int} {kb : Nat} {cs : List Int} {V : Value} {K : List (MCode × Value)}
    (h : WS w B wb A lc l tick cb ns kb cs V K) (hm : MonsA w' B A l) (hs : w.heap.size ≤ w'.heap.size) (hk : ∀ b, B ≤ b → w'.heap[b]? = w.heap[b]?) : WS w' B wb A lc l tick cb ns kb cs V K := by
  have cnt : ∀ {g : Nat} {f : Nat → Value}, B ≤ g → OwnF w g 3 l.length f → OwnF w' g 3 l.length f := fun {g f} hg ⟨c, h1, h2⟩ => ⟨c, (hk g hg).trans h1, h2⟩
  exact ⟨(hk wb h.bw).trans h.hw, hm, h.bw, h.bc, h.bk, h.n1, h.n2, h.n3, cnt h.bc h.cnt, cnt h.bk h.clm, h.row.keep fun g hg => hk g (own_block_lt h.row g hg).1, h.vb, fun p hp => (h.frames p hp).keep hs (fun b _ hu => hk b hu.2.2.2.2) (fun _ _ hu => hu)⟩
theorem init_WT {w5 : World} {B ga gb : Nat} {A : Option Addr} {lc : Nat} {l : List MMon} (hm : MonsA w5 B A l) (ha : OwnF w5 ga 3 l.length (fun _ => .int .i64 0)) (hb : OwnF w5 gb 3 l.length (fun _ => .int .i64 0)) (h1 : B ≤ ga) (h2 : B ≤ gb) (hne : ga ≠ gb) :
    WT (w5.alloc (.cells #[.slice A l.length lc, .int .i64 0, .slice (some ⟨ga, 0, none⟩) l.length l.length, .slice (some ⟨gb, 0, none⟩) l.length l.length, .slice none 0 0] 88)) B w5.heap.size A lc l 0 ga gb ⟨List.replicate l.length 0, List.replicate l.length 0, []⟩ := by
  have hz : ∀ j, Value.int .i64 0 = Value.int .i64 ((List.replicate l.length (0 : Int)).getD j 0) := fun j => by
    congr 1
    rw [List.getD_eq_getElem?_getD, List.getElem?_replicate]
    split <;> rfl
  have la := ha.lt
  have lb := hb.lt
  have hBw : B ≤ w5.heap.size := by omega
  refine ⟨by simp, by simp, .slice none 0 0, [], rfl, heap_alloc_new _ _, hm.below ((Below.refl _ _).alloc hBw _) (Nat.le_refl _), hBw, h1, h2, by omega, by omega, hne, (ha.alloc _).congr fun j _ => hz j, (hb.alloc _).congr fun j _ => hz j, World.ownsRow_nil _ B 46 6, fun g hg => (by cases hg), fun p hp => by cases hp⟩
set_option maxRecDepth 100000 in
set_option maxHeartbeats 4000000 in
theorem watch_any (A : Option Addr) (lc : Nat) (l : List MMon) (A2 : Option Addr) (rc : Nat) (rs : List (List Int)) (w : World) (h : MonsA w w.heap.size A l) (hr : RowsA w w.heap.size A2 rs) (S : Nat → WSt)
    (hS0 : S 0 = ⟨List.replicate l.length 0, List.replicate l.length 0, []⟩) (hst : watchE l rs = 0 → ∀ (k : Nat) (row : List Int), rs[k]? = some row → TickC l k row (S k) (S (k + 1))) :
    Calls Tryd.prog 15 #[.slice A l.length lc, .slice A2 rs.length rc] w (WatchPost w l rs (S rs.length)) := by
  have hlenr := hr.1
  have hlenl := h.1
  unfold maxLen at hlenr hlenl
  have hb2 : Below w.heap.size w ((w.alloc (.cells #[.slice A l.length lc] 22)).alloc (.cells #[.int .i64 0, .slice none 0 0, .slice none 0 0, .slice none 0 0] 27)) := ((Below.refl _ _).alloc (Nat.le_refl _) _).alloc (by simp) _
  have hsz : ((w.alloc (.cells #[.slice A l.length lc] 22)).alloc (.cells #[.int .i64 0, .slice none 0 0, .slice none 0 0, .slice none 0 0] 27)).heap.size = w.heap.size + 2 := by simp
  have n0 : ((w.alloc (.cells #[.slice A l.length lc] 22)).alloc (.cells #[.int .i64 0, .slice none 0 0, .slice none 0 0, .slice none 0 0] 27)).cell? ⟨w.heap.size, 0, none⟩ = some (.slice A l.length lc) := (acell _ _ _ _ (by simp)).trans (newcell w _ _ _)
  have hn1 : ((w.alloc (.cells #[.slice A l.length lc] 22)).alloc (.cells #[.int .i64 0, .slice none 0 0, .slice none 0 0, .slice none 0 0] 27)).heap[w.heap.size + 1]? = some (.cells #[.int .i64 0, .slice none 0 0, .slice none 0 0, .slice none 0 0] 27 (0, 0)) := by
    have := heap_alloc_new (w.alloc (.cells #[.slice A l.length lc] 22)) (.cells #[.int .i64 0, .slice none 0 0, .slice none 0 0, .slice none 0 0] 27)
    rwa [show (w.alloc (.cells #[.slice A l.length lc] 22)).heap.size = w.heap.size + 1 by simp] at this
  by_cases hm : monsB l = true
  · have HC := Lib.hid (mcheck_any A lc l _ ((h.keep hb2).more hb2.size) (show checkM l = 0 by unfold checkM; rw [hm]; rfl))
    have HM := Lib.hid hm
    have HH := Lib.hid h
    have HR := Lib.hid hr
    have HST := Lib.hid hst
    have HS0 := Lib.hid hS0
    clear hm h hr hst hS0
    by_cases hn : rs.length > 500
    · have HN := Lib.hid hn
      go_enter Tryd.func15, Tryd.ntmps15
      go_wp2_with (go_at_call 32; refine HC.out.mono ?_; rintro e w1 ⟨rfl, hb1⟩; have hh1 := (hb1.block (w.heap.size + 1) (by omega)).trans hn1; have z0 := row_cell hh1 0; have z1 := row_cell hh1 1; have z2 := row_cell hh1 2; have z3 := row_cell hh1 3; simp only [List.getElem?_toArray, List.getElem?_cons_succ, List.getElem?_cons_zero] at z0 z1 z2 z3; have y0 := row_frozen hh1 0; have y1 := row_frozen hh1 1; have y2 := row_frozen hh1 2; have y3 := row_frozen hh1 3)
      (try simp only [Exit.then, Exit.inBlock])
      exact bodyPost_ret (results_mem2 rfl _ _ (w.heap.size + 1) _ _ _ _ _ rfl (put4 hh1) rfl) rfl ⟨below_put4 (hb2.trans (hb1.mono (by simp; omega))) (Nat.le_succ _) _ _ _ _, .inl ⟨2, by unfold watchE; rw [if_pos HM.out, if_pos HN.out], by decide, rfl⟩⟩
    · have hq : ∀ (b : Bool), rs.all (lawB l) = b → ∀ w1, Below ((w.alloc (.cells #[.slice A l.length lc] 22)).alloc (.cells #[.int .i64 0, .slice none 0 0, .slice none 0 0, .slice none 0 0] 27)).heap.size ((w.alloc (.cells #[.slice A l.length lc] 22)).alloc (.cells #[.int .i64 0, .slice none 0 0, .slice none 0 0, .slice none 0 0] 27)) w1 →
          Calls Tryd.prog 49 #[.slice A2 rs.length rc, .func (.func 50) #[] #[.pointer (some ⟨w.heap.size, 0, none⟩)]] w1 fun e w' => e = .returned (.bool !b) ∧ Below w1.heap.size w1 w' := fun b hb w1 hb1 =>
        con49 A2 rc rs w.heap.size A lc l w1 ((((HR.out.keep hb2).more hb2.size).keep hb1).more hb1.size) ((((HH.out.keep hb2).more hb2.size).keep hb1).more hb1.size) ((bcell hb1 w.heap.size 0 (by simp; omega)).trans n0) (by have := hb1.size; simp at this; omega) hb
      have HQ := Lib.hid hq
      have HN := Lib.hid hn
      have hn' : rs.length ≤ 500 := by omega
      clear hq hn
      rcases hlw : rs.all (lawB l)
      · have HL := Lib.hid hlw
        clear hlw
        go_enter Tryd.func15, Tryd.ntmps15
        go_wp2_with (first | (go_at_call 32; refine HC.out.mono ?_; rintro e w1 ⟨rfl, hb1⟩; have HB1 := Lib.hid hb1; clear hb1) | (go_at_call 49; refine (HQ.out _ HL.out _ HB1.out).mono ?_; rintro e w2 ⟨rfl, hbq⟩; have hh1 := (hbq.block (w.heap.size + 1) (by have := HB1.out.size; simp at this; omega)).trans ((HB1.out.block (w.heap.size + 1) (by simp)).trans hn1); have z0 := row_cell hh1 0; have z1 := row_cell hh1 1; have z2 := row_cell hh1 2; have z3 := row_cell hh1 3; simp only [List.getElem?_toArray, List.getElem?_cons_succ, List.getElem?_cons_zero] at z0 z1 z2 z3; have y0 := row_frozen hh1 0; have y1 := row_frozen hh1 1; have y2 := row_frozen hh1 2; have y3 := row_frozen hh1 3))
        (try simp only [Exit.then, Exit.inBlock])
        have hB2 : Below w.heap.size w w2 := (hb2.trans (HB1.out.mono (by simp; omega))).trans (hbq.mono (by have := HB1.out.size; simp at this; omega))
        exact bodyPost_ret (results_mem2 rfl _ _ (w.heap.size + 1) _ _ _ _ _ rfl (put4 hh1) rfl) rfl ⟨below_put4 hB2 (Nat.le_succ _) _ _ _ _, .inl ⟨1, by unfold watchE; rw [if_pos HM.out, if_neg HN.out, HL.out]; rfl, by decide, rfl⟩⟩
      · have HL := Lib.hid hlw
        clear hlw
        have hw0 : watchE l rs = 0 := by unfold watchE; rw [if_pos HM.out, if_neg HN.out, HL.out]; rfl
        have HW0 := Lib.hid hw0
        clear hw0
        go_enter Tryd.func15, Tryd.ntmps15
        go_upto_region 8 with (first | (go_at_call 32; refine HC.out.mono ?_; rintro e w1 ⟨rfl, hb1⟩; have HB1 := Lib.hid hb1; clear hb1) | (go_at_call 49; refine (HQ.out _ HL.out _ HB1.out).mono ?_; rintro e w2 ⟨rfl, hbq⟩; have hh1 := (hbq.block (w.heap.size + 1) (by have := HB1.out.size; simp at this; omega)).trans ((HB1.out.block (w.heap.size + 1) (by simp)).trans hn1); have c0 := (bcell hbq w.heap.size 0 (by have := HB1.out.size; simp at this; omega)).trans ((bcell HB1.out w.heap.size 0 (by simp; omega)).trans n0)))
        have hs2 := hbq.size
        have hs1 := HB1.out.size
        simp at hs1
        have hB2 : Below w.heap.size w w2 := (hb2.trans (HB1.out.mono (by simp; omega))).trans (hbq.mono (by omega))
        have hl20 : l.length ≤ 20 := by have := HM.out; unfold monsB at this; rw [Bool.and_eq_true, decide_eq_true_eq] at this; exact this.1
        have hsd : w2.drew.heap.size = w2.heap.size := rfl
        have c1 : w2.drew.cell? ⟨w.heap.size, 0, none⟩ = some (.slice A l.length lc) := c0
        clear HQ HB1 hbq
        go_region_held3 (fun w' => w'.cell? ⟨w.heap.size, 0, none⟩ = some (.slice A l.length lc)) (first | exact c1 | exact c5 | exact c6 _ | go_keep) ((go_at_call 52; refine (begin_any A lc l.length _ (by omega)).mono ?_; rintro e w5 ⟨ga, gb, rfl, hB5⟩; have c5 := (bcell hB5.bel w.heap.size 0 (by omega)).trans c1; have hs5 := hB5.bel.size; have c6 := fun o : Obj => (acell w5 o w.heap.size 0 (by omega)).trans c5))
        have hBW5 : Below w.heap.size w w5 := hB2.trans ((Below.refl w2.heap.size w2).drew.trans (hB5.bel.mono (by omega)) |>.mono (by omega))
        have hW0 : WT (w5.alloc (.cells #[.slice A l.length lc, .int .i64 0, .slice (some ⟨ga, 0, none⟩) l.length l.length, .slice (some ⟨gb, 0, none⟩) l.length l.length, .slice none 0 0] 88)) (w.heap.size + 2) w5.heap.size A lc l 0 ga gb (S 0) := by
          rw [HS0.out]
          exact init_WT ((HH.out.keep hBW5).more (by omega)) hB5.a hB5.b (by have := hB5.la; omega) (by have := hB5.lb; omega) hB5.ne
        have hB6 : Below w.heap.size w (w5.alloc (.cells #[.slice A l.length lc, .int .i64 0, .slice (some ⟨ga, 0, none⟩) l.length l.length, .slice (some ⟨gb, 0, none⟩) l.length l.length, .slice none 0 0] 88)) := hBW5.alloc (by omega) _
        have hh6 : (w5.alloc (.cells #[.slice A l.length lc, .int .i64 0, .slice (some ⟨ga, 0, none⟩) l.length l.length, .slice (some ⟨gb, 0, none⟩) l.length l.length, .slice none 0 0] 88)).heap[w.heap.size + 1]? = some (.cells #[.int .i64 0, .slice none 0 0, .slice none 0 0, .slice none 0 0] 27 (0, 0)) := (Below.heap_alloc w5 _ _ (by omega)).trans ((hB5.bel.block (w.heap.size + 1) (by omega)).trans hh1)
        have HW0' := Lib.hid hW0
        have HB6 := Lib.hid hB6
        have HH6 := Lib.hid hh6
        clear hW0 hB6 hh6 c0 c1 c5 c6 hh1 hB5 hB2 hBW5
        go_wp2_with fail
        go_loopw [31] (fun vi wr => ∃ k : Nat, k ≤ rs.length ∧ vi = .int .i64 k ∧ Hid (WT wr (w.heap.size + 2) w5.heap.size A lc l k ga gb (S k)) ∧ Below w.heap.size w wr ∧ Hid (wr.heap[w.heap.size + 1]? = some (.cells #[.int .i64 0, .slice none 0 0, .slice none 0 0, .slice none 0 0] 27 (0, 0)))) (fun vi _ => rs.length - (intOf vi).toNat)
        case atStart => exact ⟨0, Nat.zero_le _, rfl, HW0', HB6.out, HH6⟩
        case round =>
          obtain ⟨k, hk, rfl, HT, hbw, HHK⟩ := hrel
          by_cases hlt : k < rs.length
          · obtain ⟨row, b, off, Ap, cp, ht, rfl, hblt, t0, hcp, hri⟩ := (HR.out.keep hbw).at_ hlt
            have HTK := Lib.hid (HST.out HW0.out k row ht)
            have HRI := Lib.hid (hri.more (show w.heap.size ≤ w.heap.size + 2 by omega))
            clear ht hri
            go_wp2_with (go_at_call 53; refine (HTK.out _ _ _ A lc ga gb Ap cp HT.out HRI.out).mono ?_; rintro e w7 ⟨rfl, hT7, hb7⟩)
            go_roundw
            case rel => exact ⟨k + 1, by omega, by go_num, by push_cast; exact hT7, hbw.trans (hb7.mono (by omega)), (hb7.block (w.heap.size + 1) (by omega)).trans HHK.out⟩
            case measure => simp [intOf]; omega
          · obtain rfl : k = rs.length := by omega
            obtain ⟨_, _, V, K, hKK, hS⟩ := HT.out
            obtain ⟨Av, cv, rfl, _⟩ := hS.row.lenV
            have q1 := hS.g 1
            have q2 := hS.g 2
            have q3 := hS.g 3
            have q4 := hS.g 4
            simp at q1 q2 q3 q4
            have z0 := row_cell HHK.out 0
            have z1 := row_cell HHK.out 1
            have z2 := row_cell HHK.out 2
            have z3 := row_cell HHK.out 3
            simp only [List.getElem?_toArray, List.getElem?_cons_succ, List.getElem?_cons_zero] at z0 z1 z2 z3
            have y0 := row_frozen HHK.out 0
            have y1 := row_frozen HHK.out 1
            have y2 := row_frozen HHK.out 2
            have y3 := row_frozen HHK.out 3
            have HS := Lib.hid hS
            have HKK := Lib.hid hKK
            clear hS hKK
            go_wp2_with fail
            (try simp only [Exit.then, Exit.inBlock])
            exact bodyPost_ret (results_mem2 rfl _ _ (w.heap.size + 1) _ _ _ _ _ rfl (put4 HHK.out) rfl) rfl ⟨below_put4 hbw (Nat.le_succ _) _ _ _ _, .inr ⟨HW0.out, A, lc, w5.heap.size, ga, gb, _, K, rfl, HKK.out, HS.out.moved (((HH.out.keep (below_put4 hbw (Nat.le_succ _) _ _ _ _))).more (by omega)) (by simp) (fun b hb => heap_put4 (by omega) _ _ _ _)⟩⟩
  · have HC := Lib.hid (mcheck_any A lc l _ ((h.keep hb2).more hb2.size) (show checkM l = 100 by unfold checkM; rw [if_neg hm]))
    have HM := Lib.hid hm
    clear hm h hr hst hS0
    go_enter Tryd.func15, Tryd.ntmps15
    go_wp2_with (go_at_call 32; refine HC.out.mono ?_; rintro e w1 ⟨rfl, hb1⟩; have hh1 := (hb1.block (w.heap.size + 1) (by omega)).trans hn1; have z0 := row_cell hh1 0; have z1 := row_cell hh1 1; have z2 := row_cell hh1 2; have z3 := row_cell hh1 3; simp only [List.getElem?_toArray, List.getElem?_cons_succ, List.getElem?_cons_zero] at z0 z1 z2 z3; have y0 := row_frozen hh1 0; have y1 := row_frozen hh1 1; have y2 := row_frozen hh1 2; have y3 := row_frozen hh1 3)
    (try simp only [Exit.then, Exit.inBlock])
    exact bodyPost_ret (results_mem2 rfl _ _ (w.heap.size + 1) _ _ _ _ _ rfl (put4 hh1) rfl) rfl ⟨below_put4 (hb2.trans (hb1.mono (by simp; omega))) (Nat.le_succ _) _ _ _ _, .inl ⟨100, by unfold watchE; rw [if_neg HM.out], by decide, rfl⟩⟩
end Go.Proofs.YtonpemikodajdaaDoor
