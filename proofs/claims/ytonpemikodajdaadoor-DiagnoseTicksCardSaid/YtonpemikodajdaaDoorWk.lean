/- Walks: the example's ticks; works. -/
import Derived.Test.YtonpemikodajdaaDoorWt8
import Derived.Test.YtonpemikodajdaaDoorWc
import Derived.Test.YtonpemikodajdaaDoorGu
/- What code and calm do, as steps of a tick; the example's three ticks. -/
namespace Go.Proofs.YtonpemikodajdaaDoor
open Go.RowKit

section
variable {B wb : Nat} {A : Option Addr} {lc : Caps} {l : List MMon} {tick : Int} {cb kb : Nat} {R : Option Addr} {rc : Nat} {row : List Int} {i : Nat} {s : WSt}
theorem codeC_none (hl : l.length ≤ 20) {m : MMon} (hm : l[i]? = some m) (hi : i < l.length) (hks : s.ks.length ≤ 1000000) (hasc : AscC s.ks) (ix : Nat) (has : Bool) (hf : FindP s.ks i ix has) (h1 : s.ns.getD i 0 ≠ m.limit) (h2 : s.ns.getD i 0 ≠ 0 ∨ has = false) :
    CodeC B wb A lc l tick cb kb R rc row i s s := fun w hT _ => by
  obtain ⟨e1, e2, V, K, e3, hS⟩ := hT
  have hBw : B ≤ w.heap.size := by have := hS.bw; have := hS.lt; omega
  refine (code_none hS hl (by rw [← List.length_map (f := Prod.fst), e3]; exact hks) (by rw [e3]; exact hasc) i hi m hm R rc row ix has (by rw [e3]; exact hf) _ rfl h1 h2).mono ?_
  rintro e w' ⟨h3, h4, h5⟩
  exact ⟨h3, ⟨e1, e2, V, K, e3, h4⟩, h5.mono hBw⟩
theorem codeC_new (hl : l.length ≤ 20) {m : MMon} (hm : l[i]? = some m) (hi : i < l.length) (hks : s.ks.length ≤ 1000000) (hasc : AscC s.ks) (hrl : row.length ≤ 1000) (hf : FindP s.ks i s.ks.length false) (hn : s.ns.getD i 0 = m.limit) :
    CodeC B wb A lc l tick cb kb R rc row i s { s with ks := s.ks ++ [⟨i, tick, tick, 1, row, true⟩] } := fun w hT hrow => by
  obtain ⟨e1, e2, V, K, e3, hS⟩ := hT
  have hlen : K.length = s.ks.length := by rw [← e3, List.length_map]
  refine (code_new hS hl (by rw [hlen]; exact hks) (by rw [e3]; exact hasc) i hi m hm R rc row hrow hrl (by rw [e3, hlen]; exact hf) hn).mono ?_
  rintro e w' ⟨h3, ⟨V', v, h4⟩, h5⟩
  exact ⟨h3, ⟨e1, e2, V', _, by rw [List.map_append, e3]; rfl, h4⟩, h5⟩
theorem calmC_zero (hl : l.length ≤ 20) (hi : i < l.length) (hks : s.ks.length ≤ 1000000) (hasc : AscC s.ks) (ix : Nat) (has : Bool) (hf : FindP s.ks i ix has) (ha : has = false ∨ (s.ks.getD ix dCode).active = true) :
    CalmC B wb A lc l tick cb kb i s { s with cs := s.cs.set i 0 } := fun w hT => by
  obtain ⟨e1, e2, V, K, e3, hS⟩ := hT
  refine (calm_zero hS hl e2 (by rw [← List.length_map (f := Prod.fst), e3]; exact hks) (by rw [e3]; exact hasc) i hi ix has (by rw [e3]; exact hf) (by rw [e3]; exact ha)).mono ?_
  rintro e w' ⟨h3, h4, h5⟩
  exact ⟨h3, ⟨e1, by simpa using e2, V, K, e3, h4⟩, h5⟩
end
def mEx : MMon := ⟨0, 0, 10, 2, 1, 4, 3⟩
def rsEx : List (List Int) := [[11], [11], [5]]
def cEx : MCode := ⟨0, 1, 1, 1, [11], true⟩
def sEx : Nat → WSt
  | 0 => ⟨[0], [0], []⟩
  | 1 => ⟨[2], [0], []⟩
  | 2 => ⟨[4], [0], [cEx]⟩
  | _ => ⟨[3], [0], [cEx]⟩
theorem asc_nil : AscC [] := ⟨fun _ _ _ hj => (by cases hj), fun _ hi => (by cases hi)⟩
theorem asc_one : AscC [cEx] := by
  refine ⟨fun i j h hj => ?_, fun i hi => ?_⟩
  · simp at hj; omega
  · have : i = 0 := by simpa using hi
    subst this
    exact ⟨by decide, by decide⟩
theorem find_nil : FindP [] ((0 : Nat) : Int) 0 false := ⟨Nat.le_refl _, fun k hk => (by omega), fun _ _ hk => (by cases hk), ⟨fun h => (by cases h), fun h => (by cases h.1)⟩⟩
theorem find_one : FindP [cEx] ((0 : Nat) : Int) 0 true := by
  refine ⟨Nat.zero_le _, fun k hk => ?_, fun k _ hk => ?_, ⟨fun _ => ⟨by decide, rfl⟩, fun _ => rfl⟩⟩
  · omega
  · have : k = 0 := by simpa using hk
    subst this
    exact Int.le_refl _
theorem tick_one {t : Int} {row : List Int} {s sm s' : WSt} (hlaw : lawB [mEx] row = true) (ht : 0 ≤ t ∧ t ≤ 1000000) (hn : 0 ≤ s.ns.getD 0 0 ∧ s.ns.getD 0 0 ≤ 1000)
    (hcode : ∀ B wb A lc cb kb R rc, CodeC B wb A lc [mEx] t cb kb R rc row 0 { s with ns := s.ns.set 0 (cntS mEx (row.getD 0 0) (s.ns.getD 0 0)) } sm)
    (hcalm : ∀ B wb A lc cb kb, CalmC B wb A lc [mEx] t cb kb 0 sm s') : TickC [mEx] t row s s' := fun w B wb A lc cb kb R rc hT hrow => by
  refine tick_any R rc row (fun k => if k = 0 then s else s') (fun _ => sm) hT (by decide +kernel) hrow hlaw ht (fun i hi => ?_) (fun i m hm => ?_) (fun i hi => ?_)
  · have : i = 0 := by simpa using hi
    subst this
    exact hn
  · have hi : i < 1 := (List.getElem?_eq_some_iff.1 hm).1
    have : i = 0 := by omega
    subst this
    injection hm with hm
    subst hm
    exact hcode B wb A lc cb kb R rc
  · have : i = 0 := by simpa using hi
    subst this
    exact hcalm B wb A lc cb kb
theorem ticks_ex : ∀ (k : Nat) (row : List Int), rsEx[k]? = some row → TickC [mEx] k row (sEx k) (sEx (k + 1)) := fun k row hk => by
  rcases k with _ | _ | _ | k
  · injection hk with hk
    subst hk
    refine tick_one (by decide +kernel) (by decide) (by decide) (sm := ⟨[2], [0], []⟩) (fun B wb A lc cb kb R rc => ?_) (fun B wb A lc cb kb => ?_)
    · exact codeC_none (s := ⟨[2], [0], []⟩) (by decide) (m := mEx) rfl (by decide) (by decide) asc_nil 0 false find_nil (by decide) (.inr rfl)
    · exact calmC_zero (s := ⟨[2], [0], []⟩) (by decide) (by decide) (by decide) asc_nil 0 false find_nil (.inl rfl)
  · injection hk with hk
    subst hk
    refine tick_one (by decide +kernel) (by decide) (by decide) (sm := ⟨[4], [0], [cEx]⟩) (fun B wb A lc cb kb R rc => ?_) (fun B wb A lc cb kb => ?_)
    · exact codeC_new (s := ⟨[4], [0], []⟩) (by decide) (m := mEx) rfl (by decide) (by decide) asc_nil (by decide) find_nil (by decide)
    · exact calmC_zero (s := ⟨[4], [0], [cEx]⟩) (by decide) (by decide) (by decide) asc_one 0 true find_one (.inr rfl)
  · injection hk with hk
    subst hk
    refine tick_one (by decide +kernel) (by decide) (by decide) (sm := ⟨[3], [0], [cEx]⟩) (fun B wb A lc cb kb R rc => ?_) (fun B wb A lc cb kb => ?_)
    · exact codeC_none (s := ⟨[3], [0], [cEx]⟩) (by decide) (m := mEx) rfl (by decide) (by decide) asc_one 0 true find_one (by decide) (.inl (by decide))
    · exact calmC_zero (s := ⟨[3], [0], [cEx]⟩) (by decide) (by decide) (by decide) asc_one 0 true find_one (.inr rfl)
  · simp [rsEx] at hk
theorem ex_watchE : watchE [mEx] rsEx = 0 := by decide +kernel
end Go.Proofs.YtonpemikodajdaaDoor

/- Walk: works, the look at the chapter's examples. -/
namespace Go.Proofs.YtonpemikodajdaaDoor
open Go.RowKit

theorem guide_ex {w w' : World} {e : Ending} (h : GuidePost w exC e w') : ∃ A cap, e = .returned (.tuple #[.slice A 5 cap, .int .i64 24, .int .i64 0]) ∧ Below w.heap.size w w' := by
  obtain ⟨hb, h⟩ := h
  rcases h with ⟨h, _⟩ | ⟨_, v, rfl, hO⟩
  · rw [exC_ok] at h; cases h
  · obtain ⟨A, cap, rfl, _⟩ := hO.lenV
    refine ⟨A, cap, ?_, hb⟩
    rw [exC_full, exC_grow, exC_best]
theorem watch_ex {w w' : World} {e : Ending} (h : WatchPost w [mEx] rsEx (sEx rsEx.length) e w') : ∃ cb kb g cap, e = .returned (.tuple #[.agg #[.int .i64 3, .slice (some ⟨cb, 0, none⟩) 1 1, .slice (some ⟨kb, 0, none⟩) 1 1, .slice (some ⟨g, 0, none⟩) 1 cap], .int .i64 0]) ∧
    (g < w'.heap.size ∧ w'.cell? ⟨g, 1, none⟩ = some (.int .i64 1) ∧ w'.cell? ⟨g, 5, none⟩ = some (.bool true)) ∧ Below w.heap.size w w' := by
  obtain ⟨hb, h⟩ := h
  rcases h with ⟨r, h, h0, _⟩ | ⟨_, A, lc, wb, cb, kb, V, K, rfl, hK, hS⟩
  · rw [ex_watchE] at h
    exact absurd h.symm h0
  · have hK1 : K.length = 1 := by have := congrArg List.length hK; rw [List.length_map] at this; exact this
    obtain ⟨p, rfl⟩ : ∃ p, K = [p] := by
      match K, hK1 with
      | [p], _ => exact ⟨p, rfl⟩
    have hp : p.1 = cEx := by
      have : [p.1] = [cEx] := hK
      injection this
    obtain ⟨Av, cap, rfl, hcap⟩ := hS.row.lenV
    have hrow : w'.ownsRow (w.heap.size + 2) 46 6 (.slice Av [p].length cap) [p].length ([p].flatMap cells6) := hS.row
    have hA : ∃ g, Av = some ⟨g, 0, none⟩ := by
      rcases hrow.2 with ⟨_, h⟩ | ⟨g, cap', cur, hg, _⟩
      · cases h
      · injection hg with hg
        exact ⟨g, hg⟩
    obtain ⟨g, rfl⟩ := hA
    refine ⟨cb, kb, g, cap, rfl, ⟨(own_block_lt hrow g rfl).2, ?_, ?_⟩, hb⟩
    · rw [World.ownsRow.cellAt hrow 1 (by simp)]
      show some (Value.int .i64 p.1.first) = _
      rw [hp]; rfl
    · rw [World.ownsRow.cellAt hrow 5 (by simp)]
      show some (Value.bool p.1.active) = _
      rw [hp]; rfl
theorem ints_of {w : World} {b : Nat} {cs : Array Value} {l : List Int} (h : w.heap[b]? = some (.cells cs 3 (0, 0))) (hl : l.length ≤ 1000) (hc : ∀ i, i < l.length → cs[i]? = some (.int .i64 (l.getD i 0))) : IntsA w w.heap.size (some ⟨b, 0, none⟩) l := by
  refine ⟨by unfold maxLen; omega, fun _ => ⟨b, 0, rfl, ?_, fun i hi => ?_⟩⟩
  · rcases Nat.lt_or_ge b w.heap.size with hlt | hge
    · exact hlt
    · rw [Array.getElem?_eq_none hge] at h; cases h
  · rw [row_cell h, Nat.zero_add]; exact hc i hi
theorem lt_of_block {w : World} {b : Nat} {o : Obj} (h : w.heap[b]? = some o) : b < w.heap.size := by
  rcases Nat.lt_or_ge b w.heap.size with hlt | hge
  · exact hlt
  · rw [Array.getElem?_eq_none hge] at h; cases h
theorem heap_new {w : World} {o : Obj} {n : Nat} (h : n = w.heap.size) : (w.alloc o).heap[n]? = some o := h ▸ heap_alloc_new w o
theorem heap_old {w : World} {o o' : Obj} {b : Nat} (h : w.heap[b]? = some o) : (w.alloc o').heap[b]? = some o := (Below.heap_alloc w o' b (lt_of_block h)).trans h
theorem ex_case {W : World} {b0 b1 b2 b3 : Nat} (h0 : W.heap[b0]? = some (.cells #[.int .i64 4, .int .i64 2, .int .i64 1] 3 (0, 0))) (h1 : W.heap[b1]? = some (.cells #[.int .i64 0, .int .i64 1, .int .i64 1] 3 (0, 0))) (h2 : W.heap[b2]? = some (.cells #[.int .i64 0, .int .i64 0, .int .i64 1] 3 (0, 0)))
    (h3 : W.heap[b3]? = some (.cells #[.int .i64 3, .slice (some ⟨b1, 0, none⟩) 3 3, .int .i64 1, .slice (some ⟨b2, 0, none⟩) 3 3] 50 (0, 0))) : CaseA W W.heap.size (some ⟨b0, 0, none⟩) (some ⟨b3, 0, none⟩) exC := by
  have three : ∀ {a b c : Int} (i : Nat), i < [a, b, c].length → (#[Value.int .i64 a, .int .i64 b, .int .i64 c] : Array Value)[i]? = some (.int .i64 ([a, b, c].getD i 0)) := fun {a b c} i hi => by
    rcases (show i = 0 ∨ i = 1 ∨ i = 2 by simp at hi; omega) with rfl | rfl | rfl <;> rfl
  refine ⟨ints_of h0 (by decide) (three (a := 4) (b := 2) (c := 1)), by decide, fun i => if i = 0 then (some ⟨b1, 0, none⟩, 3) else (some ⟨b2, 0, none⟩, 3), fun _ => ⟨b3, 0, rfl, lt_of_block h3, fun i j hi hj => ?_⟩, fun i hi => ?_⟩
  · have hi : i < 2 := hi
    rw [row_cell h3]
    rcases (show (i = 0 ∨ i = 1) ∧ (j = 0 ∨ j = 1) by omega) with ⟨rfl | rfl, rfl | rfl⟩ <;> rfl
  · have hi : i < 2 := hi
    rcases (show i = 0 ∨ i = 1 by omega) with rfl | rfl
    · exact ⟨Nat.le_refl 3, ints_of h1 (by decide) (three (a := 0) (b := 1) (c := 1))⟩
    · exact ⟨Nat.le_refl 3, ints_of h2 (by decide) (three (a := 0) (b := 0) (c := 1))⟩
theorem ex_mons {W : World} {b : Nat} (h : W.heap[b]? = some (.cells #[.int .i64 0, .int .i64 0, .int .i64 10, .int .i64 2, .int .i64 1, .int .i64 4, .int .i64 3] 44 (0, 0))) : MonsA W W.heap.size (some ⟨b, 0, none⟩) [mEx] := by
  refine ⟨by decide, fun _ => ⟨b, 0, rfl, lt_of_block h, fun i j hi hj => ?_⟩⟩
  obtain rfl : i = 0 := by simpa using hi
  rw [row_cell h]
  rcases (show j = 0 ∨ j = 1 ∨ j = 2 ∨ j = 3 ∨ j = 4 ∨ j = 5 ∨ j = 6 by omega) with rfl | rfl | rfl | rfl | rfl | rfl | rfl <;> rfl
theorem ex_rows {W : World} {b1 b2 b3 b : Nat} (h1 : W.heap[b1]? = some (.cells #[.int .i64 11] 3 (0, 0))) (h2 : W.heap[b2]? = some (.cells #[.int .i64 11] 3 (0, 0))) (h3 : W.heap[b3]? = some (.cells #[.int .i64 5] 3 (0, 0)))
    (h : W.heap[b]? = some (.cells #[.slice (some ⟨b1, 0, none⟩) 1 1, .slice (some ⟨b2, 0, none⟩) 1 1, .slice (some ⟨b3, 0, none⟩) 1 1] 24 (0, 0))) : RowsA W W.heap.size (some ⟨b, 0, none⟩) rsEx := by
  have one : ∀ {a : Int} (i : Nat), i < [a].length → (#[Value.int .i64 a] : Array Value)[i]? = some (.int .i64 ([a].getD i 0)) := fun {a} i hi => by
    obtain rfl : i = 0 := by simpa using hi
    rfl
  refine ⟨by decide, fun i => if i = 0 then (some ⟨b1, 0, none⟩, 1) else if i = 1 then (some ⟨b2, 0, none⟩, 1) else (some ⟨b3, 0, none⟩, 1), fun _ => ⟨b, 0, rfl, lt_of_block h, fun i j hi hj => ?_⟩, fun i hi => ?_⟩
  · have hi : i < 3 := hi
    obtain rfl : j = 0 := by omega
    rw [row_cell h]
    rcases (show i = 0 ∨ i = 1 ∨ i = 2 by omega) with rfl | rfl | rfl <;> rfl
  · have hi : i < 3 := hi
    rcases (show i = 0 ∨ i = 1 ∨ i = 2 by omega) with rfl | rfl | rfl
    · exact ⟨Nat.le_refl 1, ints_of h1 (by decide) (one (a := 11))⟩
    · exact ⟨Nat.le_refl 1, ints_of h2 (by decide) (one (a := 11))⟩
    · exact ⟨Nat.le_refl 1, ints_of h3 (by decide) (one (a := 5))⟩
theorem ex_chain (w : World) : ∀ W, W = ((((w.alloc (.cells #[.int .i64 4, .int .i64 2, .int .i64 1] 3)).alloc (.cells #[.int .i64 0, .int .i64 1, .int .i64 1] 3)).alloc (.cells #[.int .i64 0, .int .i64 0, .int .i64 1] 3)).alloc
    (.cells #[.int .i64 3, .slice (some ⟨w.heap.size + 1, 0, none⟩) 3 3, .int .i64 1, .slice (some ⟨w.heap.size + 1 + 1, 0, none⟩) 3 3] 50)).alloc (.cells #[.slice (some ⟨w.heap.size, 0, none⟩) 3 3, .slice (some ⟨w.heap.size + 1 + 1 + 1, 0, none⟩) 2 2] 36) →
    CaseA W W.heap.size (some ⟨w.heap.size, 0, none⟩) (some ⟨w.heap.size + 1 + 1 + 1, 0, none⟩) exC ∧ Below w.heap.size w W := by
  rintro _ rfl
  exact ⟨ex_case (b1 := w.heap.size + 1) (b2 := w.heap.size + 1 + 1) (heap_old (heap_old (heap_old (heap_old (heap_new rfl))))) (heap_old (heap_old (heap_old (heap_new (by simp))))) (heap_old (heap_old (heap_new (by simp)))) (heap_old (heap_new (by simp))),
    (((((Below.refl _ _).alloc (Nat.le_refl _) _).alloc (by simp) _).alloc (by simp; omega) _).alloc (by simp; omega) _).alloc (by simp; omega) _⟩
theorem ex_chain2 (w : World) : ∀ W, W = ((((w.alloc (.cells #[.int .i64 0, .int .i64 0, .int .i64 10, .int .i64 2, .int .i64 1, .int .i64 4, .int .i64 3] 44)).alloc (.cells #[.int .i64 11] 3)).alloc (.cells #[.int .i64 11] 3)).alloc (.cells #[.int .i64 5] 3)).alloc
    (.cells #[.slice (some ⟨w.heap.size + 1, 0, none⟩) 1 1, .slice (some ⟨w.heap.size + 1 + 1, 0, none⟩) 1 1, .slice (some ⟨w.heap.size + 1 + 1 + 1, 0, none⟩) 1 1] 24) →
    MonsA W W.heap.size (some ⟨w.heap.size, 0, none⟩) [mEx] ∧ RowsA W W.heap.size (some ⟨w.heap.size + 1 + 1 + 1 + 1, 0, none⟩) rsEx ∧ Below w.heap.size w W := by
  rintro _ rfl
  exact ⟨ex_mons (heap_old (heap_old (heap_old (heap_old (heap_new rfl))))), ex_rows (b1 := w.heap.size + 1) (b2 := w.heap.size + 1 + 1) (b3 := w.heap.size + 1 + 1 + 1) (heap_old (heap_old (heap_old (heap_new (by simp))))) (heap_old (heap_old (heap_new (by simp)))) (heap_old (heap_new (by simp))) (heap_new (by simp)),
    (((((Below.refl _ _).alloc (Nat.le_refl _) _).alloc (by simp) _).alloc (by simp; omega) _).alloc (by simp; omega) _).alloc (by simp; omega) _⟩
set_option maxRecDepth 100000 in
set_option maxHeartbeats 4000000 in
theorem works_any (w : World) (hT : TabW w) : Calls Tryd.prog 18 #[] w fun e w' => e = .returned (.bool true) ∧ Below w.heap.size w w' := by
  have h1 := ex_chain w _ rfl
  have HB1 := Lib.hid h1.2
  have HC := Lib.hid (guide_any _ _ 3 2 exC _ h1.1 (hT.keep h1.2))
  clear h1
  go_enter Tryd.func18, Tryd.ntmps18
  go_wp2_with (first | (go_at_call 20; refine HC.out.mono ?_; intro e w2 hP; obtain ⟨Ag, cg, rfl, hb2⟩ := guide_ex hP; have h3 := ex_chain2 w2 _ rfl; have HC3 := Lib.hid (watch_any _ 1 [mEx] _ 3 rsEx _ h3.1 h3.2.1 sEx rfl (fun _ => ticks_ex)); have HB3 := Lib.hid h3.2.2; clear h3 hP) | (go_at_call 15; refine HC3.out.mono ?_; intro e w4 hQ; obtain ⟨cb, kb, g, cap, rfl, ⟨hg, c1, c5⟩, hb4⟩ := watch_ex hQ; have d1 := (acell w4 (.cells #[.int .i64 3, .slice (some ⟨cb, 0, none⟩) 1 1, .slice (some ⟨kb, 0, none⟩) 1 1, .slice (some ⟨g, 0, none⟩) 1 cap] 27) g 1 hg).trans c1; have d5 := (acell w4 (.cells #[.int .i64 3, .slice (some ⟨cb, 0, none⟩) 1 1, .slice (some ⟨kb, 0, none⟩) 1 1, .slice (some ⟨g, 0, none⟩) 1 cap] 27) g 5 hg).trans c5; clear hQ c1 c5))
  go_ret
  exact ⟨rfl, ((HB1.out.trans (hb2.mono HB1.out.size)).trans ((HB3.out.trans (hb4.mono HB3.out.size)).mono (by have := HB1.out.size; have := hb2.size; omega))).alloc (by have := HB1.out.size; have := hb2.size; have := HB3.out.size; have := hb4.size; omega) _⟩
end Go.Proofs.YtonpemikodajdaaDoor
