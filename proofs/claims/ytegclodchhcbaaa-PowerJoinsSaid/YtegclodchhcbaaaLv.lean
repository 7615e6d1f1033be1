/- Walk: live, the net of what is not lost. -/
import Derived.Test.YtegclodchhcbaaaGm
import Derived.Test.YtegclodchhcbaaaPh
namespace Go.Proofs.Ytegclodchhcbaaa
open Go.RowKit

/-- a grid as a value -/
def gridC (g : MGrid) (A1 A2 A3 : Option Addr) (c1 c2 c3 : Nat) : Array Value := #[.int .i64 g.nodes, .slice A1 g.lines.length c1, .slice A2 g.srcs.length c2, .slice A3 g.users.length c3]
structure GridA (w : World) (B : Nat) (g : MGrid) (A1 A2 A3 : Option Addr) : Prop where
  ls : LinesA w B A1 g.lines
  ss : SrcsA w B A2 g.srcs
  us : UsersA w B A3 g.users
theorem GridA.keep {w w' : World} {B : Nat} {g : MGrid} {A1 A2 A3 : Option Addr} (h : GridA w B g A1 A2 A3) (hb : Below B w w') : GridA w' B g A1 A2 A3 := ⟨h.ls.below hb (Nat.le_refl _), h.ss.below hb (Nat.le_refl _), h.us.below hb (Nat.le_refl _)⟩
theorem GridA.more {w : World} {B B' : Nat} {g : MGrid} {A1 A2 A3 : Option Addr} (h : GridA w B g A1 A2 A3) (hB : B ≤ B') : GridA w B' g A1 A2 A3 := ⟨h.ls.more hB, h.ss.more hB, h.us.more hB⟩
set_option maxRecDepth 100000 in
theorem gone_any (tb : Nat) (A : Option Addr) (cap : Nat) (F : List MFault) (n : Int) (w : World) (ht : w.cell? ⟨tb, 0, none⟩ = some (.slice A F.length cap)) (h : FaultsA w w.heap.size A F) {b : Bool} (hb : lostB F 3 n = b) :
    Calls Try.prog 94 #[.int .i64 n, .pointer (some ⟨tb, 0, none⟩)] w fun e w' => e = .returned (.bool b) ∧ Below w.heap.size w w' := by
  have HC := Lib.hid (lost_any A cap F 3 n w h hb)
  clear h hb
  go_enter Try.func94, Try.ntmps94
  go_wp2_with (go_at_call 95; refine HC.out.mono ?_; rintro e w2 ⟨rfl, hb2⟩)
  go_ret
  exact ⟨rfl, hb2⟩
/-- live's memory: s the size before it -/
structure LiveW (s : Nat) (w4 : World) (c : Tab) (wr : World) : Prop where
  tab : TabA wr (s + 3) c
  res : TabA wr (s + 2) zeroT
  bel : Below (s + 2) w4 wr
  siz : s + 4 ≤ wr.heap.size
theorem LiveW.later {s : Nat} {w4 : World} {c : Tab} {wr w' : World} (h : LiveW s w4 c wr) (hb : Below wr.heap.size wr w') : LiveW s w4 c w' := by
  have h1 := h.siz
  exact ⟨h.tab.keep (hb.block _ (by omega)), h.res.keep (hb.block _ (by omega)), h.bel.trans (hb.mono (by omega)), Nat.le_trans h1 hb.size⟩
theorem LiveW.put {s : Nat} {w4 : World} {c : Tab} {wr : World} (h : LiveW s w4 c wr) {i k : Nat} (hk : k < 22) (v : Int) : LiveW s w4 (upd c i k v) (wr.setCell ⟨s + 3, i * 22 + k, none⟩ (.int .i64 v)).drew := by
  have h1 := h.siz
  exact ⟨(h.tab.set hk v).drewN 1, (h.res.keep (Below.heap_setCell wr ⟨s + 3, i * 22 + k, none⟩ _ (s + 2) (by show s + 2 ≠ s + 3; omega))).drewN 1, (h.bel.setCell (p := ⟨s + 3, i * 22 + k, none⟩) (by show s + 2 ≤ s + 3; omega) _).drew, by simpa using h1⟩
set_option maxRecDepth 100000 in
set_option maxHeartbeats 8000000 in
theorem live_any (g : MGrid) (n : Nat) (A1 A2 A3 : Option Addr) (c1 c2 c3 : Nat) (A : Option Addr) (cap : Nat) (F : List MFault) (w : World) (h : GridA w w.heap.size g A1 A2 A3) (hf : FaultsA w w.heap.size A F) (hg : GridOk g n) :
    Calls Try.prog 59 #[.agg (gridC g A1 A2 A3 c1 c2 c3), .slice A F.length cap] w fun e w' => (∃ C, e = .returned (.agg C) ∧ TabC C (srcsT F 20 g.srcs (linesT F g.lines zeroT g.lines.length) g.srcs.length)) ∧ Below w.heap.size w w' := by
  unfold gridC
  obtain ⟨Z, hZ⟩ : ∃ Z, Z = Array.replicate 484 (Value.int .i64 0) := ⟨_, rfl⟩
  have hz86 := zero86.1
  have hTZ := tab_zero
  rw [← hZ] at hz86 hTZ
  clear hZ
  obtain ⟨w2, hw2⟩ : ∃ w2, (w.alloc (.cells #[.int .i64 g.nodes, .slice A1 g.lines.length c1, .slice A2 g.srcs.length c2, .slice A3 g.users.length c3] 26)).alloc (.cells #[.slice A F.length cap] 27) = w2 := ⟨_, rfl⟩
  obtain ⟨w3, hw3⟩ : ∃ w3, w2.alloc (.cells Z 86) = w3 := ⟨_, rfl⟩
  obtain ⟨w4, hw4⟩ : ∃ w4, w3.alloc (.cells Z 86) = w4 := ⟨_, rfl⟩
  have hs2 : w2.heap.size = w.heap.size + 2 := by rw [← hw2]; simp
  have hs3 : w3.heap.size = w.heap.size + 3 := by rw [← hw3]; simp [hs2]
  have hs4 : w4.heap.size = w.heap.size + 4 := by rw [← hw4]; simp [hs3]
  have hb2 : Below w.heap.size w w2 := by rw [← hw2]; exact ((Below.refl _ _).alloc (Nat.le_refl _) _).alloc (by simp) _
  have hb24 : Below w2.heap.size w2 w4 := by rw [← hw4, ← hw3]; exact ((Below.refl _ _).alloc (Nat.le_refl _) _).alloc (by simp) _
  have hx1 : w2.heap[w.heap.size]? = some (.cells #[.int .i64 g.nodes, .slice A1 g.lines.length c1, .slice A2 g.srcs.length c2, .slice A3 g.users.length c3] 26 (0, 0)) := by rw [← hw2]; exact (Below.heap_alloc _ _ _ (by simp)).trans (heap_alloc_new w _)
  have hx2 : w2.heap[w.heap.size + 1]? = some (.cells #[.slice A F.length cap] 27 (0, 0)) := by
    have := heap_alloc_new (w.alloc (.cells #[.int .i64 g.nodes, .slice A1 g.lines.length c1, .slice A2 g.srcs.length c2, .slice A3 g.users.length c3] 26)) (.cells #[.slice A F.length cap] 27)
    rw [← hw2]
    simpa using this
  have HX : Hid (∀ W, Below (w.heap.size + 2) w4 W → Below w.heap.size w W ∧ W.heap[w.heap.size]? = some (.cells #[.int .i64 g.nodes, .slice A1 g.lines.length c1, .slice A2 g.srcs.length c2, .slice A3 g.users.length c3] 26 (0, 0)) ∧ W.heap[w.heap.size + 1]? = some (.cells #[.slice A F.length cap] 27 (0, 0))) := fun W hW => by
    have h1 := hb24.trans (hW.mono (by omega))
    exact ⟨hb2.trans (h1.mono (by omega)), (h1.block _ (by omega)).trans hx1, (h1.block _ (by omega)).trans hx2⟩
  have HG : Hid (∀ W, Below (w.heap.size + 2) w4 W → GridA W w.heap.size g A1 A2 A3 ∧ FaultsA W W.heap.size A F) := fun W hW => by
    have h1 := (HX.out W hW).1
    exact ⟨h.keep h1, (hf.keep h1).more h1.size⟩
  have HL : Hid (LiveW w.heap.size w4 zeroT w4) := by
    have q3 : w3.heap[w.heap.size + 2]? = some (.cells Z 86 (0, 0)) := by rw [← hw3, ← hs2]; exact heap_alloc_new w2 _
    have q4 : w4.heap[w.heap.size + 3]? = some (.cells Z 86 (0, 0)) := by rw [← hw4, ← hs3]; exact heap_alloc_new w3 _
    exact ⟨⟨Z, q4, hTZ⟩, ⟨Z, by rw [← hw4]; exact (Below.heap_alloc _ _ _ (by omega)).trans q3, hTZ⟩, Below.refl _ _, by omega⟩
  have HGO := Lib.hid hg
  have hln := hg.nl
  have hsn := hg.ns
  obtain ⟨_, p1, p2, p3⟩ := (show w4.cell? ⟨w.heap.size, 0, none⟩ = _ ∧ w4.cell? ⟨w.heap.size, 1, none⟩ = _ ∧ w4.cell? ⟨w.heap.size, 2, none⟩ = _ ∧ w4.cell? ⟨w.heap.size, 3, none⟩ = _ from ⟨cell_of_row w4 _ 0 _ _ _ (HX.out w4 (Below.refl _ _)).2.1, cell_of_row w4 _ 1 _ _ _ (HX.out w4 (Below.refl _ _)).2.1, cell_of_row w4 _ 2 _ _ _ (HX.out w4 (Below.refl _ _)).2.1, cell_of_row w4 _ 3 _ _ _ (HX.out w4 (Below.refl _ _)).2.1⟩)
  simp only [List.getElem?_toArray, List.getElem?_cons_succ, List.getElem?_cons_zero] at p1 p2 p3
  clear h hf hg hb2 hb24 hx1 hx2
  go_enter Try.func59, Try.ntmps59
  go_wp2_with fail
  go_loopw [15] (fun vi wr => ∃ k : Nat, k ≤ g.lines.length ∧ vi = .int .i64 k ∧ Hid (LiveW w.heap.size w4 (linesT F g.lines zeroT k) wr)) (fun vi _ => g.lines.length - (intOf vi).toNat)
  case atStart => exact ⟨0, Nat.zero_le _, rfl, HL⟩
  case round =>
    clear HL p1 p2 p3
    obtain ⟨k, hk, rfl, HL⟩ := hrel
    rename World => wr
    by_cases hlt : k < g.lines.length
    · obtain ⟨f, lb, lo, hfe, hA, hlb, f0, f1, f2, f3⟩ := (HG.out wr HL.out.bel).1.ls.at_ hlt
      subst hA
      have hfm : f ∈ g.lines := by rw [← hfe]; exact getD_mem_of hlt dLine
      obtain ⟨hfa, hfb, hfab, hf1, hf2⟩ := HGO.out.line f hfm
      have hn := HGO.out.few
      obtain ⟨a, ha⟩ : ∃ a : Nat, f.a = (a : Int) := ⟨f.a.toNat, by omega⟩
      obtain ⟨b, hb⟩ : ∃ b : Nat, f.b = (b : Int) := ⟨f.b.toNat, by omega⟩
      have ha22 : a < 22 := by omega
      have hb22 : b < 22 := by omega
      have hab : a ≠ b := by omega
      rw [ha] at f0
      rw [hb] at f1
      have hst : linesT F g.lines zeroT (k + 1) = lineT F (linesT F g.lines zeroT k) k f := by show lineT F _ k (g.lines.getD k dLine) = _; rw [hfe]
      have HBD : Hid (Bd (linesT F g.lines zeroT k) 9000000) := HGO.out.linesBd hk
      have HST := Lib.hid hst
      have HFA := Lib.hid ha
      have HFB := Lib.hid hb
      have HLT := Lib.hid hlt
      clear hfe hfm hfa hfb hfab hn ha hb hst
      generalize linesT F g.lines zeroT k = c at *
      have hal : Below wr.heap.size wr (wr.alloc (.cells #[.int .i64 a, .int .i64 b, .int .i64 f.limit, .bool f.one] 67)) := (Below.refl _ _).alloc (Nat.le_refl _) _
      have HL1 : Hid (LiveW w.heap.size w4 c (wr.alloc (.cells #[.int .i64 a, .int .i64 b, .int .i64 f.limit, .bool f.one] 67))) := HL.out.later hal
      have HLC : Hid (∀ W, Below (wr.alloc (.cells #[.int .i64 a, .int .i64 b, .int .i64 f.limit, .bool f.one] 67)).heap.size (wr.alloc (.cells #[.int .i64 a, .int .i64 b, .int .i64 f.limit, .bool f.one] 67)) W → W.cell? ⟨wr.heap.size, 0, none⟩ = some (.int .i64 a) ∧ W.cell? ⟨wr.heap.size, 1, none⟩ = some (.int .i64 b) ∧ W.cell? ⟨wr.heap.size, 2, none⟩ = some (.int .i64 f.limit) ∧ W.cell? ⟨wr.heap.size, 3, none⟩ = some (.bool f.one)) := fun W hW => by
        have h1 := (hW.block wr.heap.size (by simp)).trans (heap_alloc_new wr (.cells #[.int .i64 a, .int .i64 b, .int .i64 f.limit, .bool f.one] 67))
        exact ⟨cell_of_row W _ 0 _ _ _ h1, cell_of_row W _ 1 _ _ _ h1, cell_of_row W _ 2 _ _ _ h1, cell_of_row W _ 3 _ _ _ h1⟩
      have hxs := HL.out.siz
      have HTB : Hid (∀ W, LiveW w.heap.size w4 c W → W.cell? ⟨w.heap.size + 1, 0, none⟩ = some (.slice A F.length cap)) := fun W hW => cell_of_row W _ 0 _ _ _ (HX.out W hW.bel).2.2
      have tb := HTB.out _ HL1.out
      clear hal HL
      rcases b1 : lostB F 2 k
      · have B1 := Lib.hid b1
        clear b1
        rcases b2 : lostB F 3 a
        · have B2 := Lib.hid b2
          clear b2
          rcases b3 : lostB F 3 b
          · have B3 := Lib.hid b3
            clear b3
            go_upto_region 7 with (first
              | (go_at_call 95; refine (lost_any A cap F 2 k _ (HG.out _ HL1.out.bel).2 B1.out).mono ?_; rintro e w5 ⟨rfl, hb5⟩; obtain ⟨d0, d1, d2, d3⟩ := HLC.out w5 hb5; have HB5 := Lib.hid hb5; have HL5 := Lib.hid (HL1.out.later hb5); clear hb5)
              | (go_at_call 94; (with_reducible refine (gone_any (w.heap.size + 1) A cap F a w5 (HTB.out _ HL5.out) (HG.out _ HL5.out.bel).2 B2.out).mono ?_); rintro e w6 ⟨rfl, hb6⟩; clear d0 d1 d2 d3; have HB6 := Lib.hid (HB5.out.trans (hb6.mono HB5.out.size)); obtain ⟨d0, d1, d2, d3⟩ := HLC.out w6 HB6.out; have HL6 := Lib.hid (HL5.out.later hb6); clear hb6)
              | (go_at_call 94; (with_reducible refine (gone_any (w.heap.size + 1) A cap F b w6 (HTB.out _ HL6.out) (HG.out _ HL6.out.bel).2 B3.out).mono ?_); rintro e w7 ⟨rfl, hb7⟩; clear d0 d1 d2 d3; have HB7 := Lib.hid (HB6.out.trans (hb7.mono HB6.out.size)); obtain ⟨d0, d1, d2, d3⟩ := HLC.out w7 HB7.out; have HL7 := Lib.hid (HL6.out.later hb7); clear hb7))
            have HON : Hid (lineOn F k f = true) := by show lineOn F k f = true; unfold lineOn; rw [B1.out, HFA.out, B2.out, HFB.out, B3.out]; rfl
            have hba := HBD.out a b
            have ct := HL7.out.tab.cell ha22 hb22
            have cf := HL7.out.tab.fr (a * 22 + b)
            have e1 : IntKind.i64.wrap (c a b + f.limit) = c a b + f.limit := IntWalk.i64_in _ (by omega)
            refine wp_region_quiet_tail 14 (by kernel_rfl) (by kernel_rfl) ?_
            simp only [List.take_succ_cons, List.take_zero, List.drop_succ_cons, List.drop_zero]
            repeat (go_big_quiet_step (fail))
            refine wpQuiet_nil ?_
            go_upto_region 8 with fail
            have HL8 : Hid (LiveW w.heap.size w4 (addT c a b f.limit) (w7.setCell ⟨w.heap.size + 3, a * 22 + b, none⟩ (.int .i64 (c a b + f.limit))).drew) := HL7.out.put hb22 _
            have hxw : w.heap.size + 3 < wr.heap.size := by omega
            have HB8 : Hid ((w7.setCell ⟨w.heap.size + 3, a * 22 + b, none⟩ (.int .i64 (c a b + f.limit))).drew.heap[wr.heap.size]? = w7.heap[wr.heap.size]?) := Below.heap_setCell w7 ⟨w.heap.size + 3, a * 22 + b, none⟩ _ _ (by show wr.heap.size ≠ w.heap.size + 3; omega)
            have HH7 : Hid (w7.heap[wr.heap.size]? = some (.cells #[.int .i64 a, .int .i64 b, .int .i64 f.limit, .bool f.one] 67 (0, 0))) := (HB7.out.block wr.heap.size (by simp)).trans (heap_alloc_new wr _)
            generalize (w7.setCell ⟨w.heap.size + 3, a * 22 + b, none⟩ (.int .i64 (c a b + f.limit))).drew = w8 at *
            clear ct cf e1 d0 d1 d2 d3 hba
            have hh8 := HB8.out.trans HH7.out
            have d0 := cell_of_row w8 _ 0 _ _ _ hh8
            have d1 := cell_of_row w8 _ 1 _ _ _ hh8
            have d2 := cell_of_row w8 _ 2 _ _ _ hh8
            have d3 := cell_of_row w8 _ 3 _ _ _ hh8
            simp only [List.getElem?_toArray, List.getElem?_cons_succ, List.getElem?_cons_zero] at d0 d1 d2 d3
            clear hh8
            rcases hone : f.one
            · have HNE : Hid (f.one = false) := hone
              have HBE : Hid (Bd (addT c a b f.limit) 9200000) := (HBD.out.addT ⟨hf1, hf2⟩ a b).more (by omega)
              have hba := HBE.out b a
              obtain ⟨u, hu⟩ : ∃ u, addT c a b f.limit b a = u := ⟨_, rfl⟩
              have HU := Lib.hid hu
              have ct := HL8.out.tab.cell hb22 ha22
              have cf := HL8.out.tab.fr (b * 22 + a)
              rw [hu] at ct hba
              rw [hone] at d3
              have e1 : IntKind.i64.wrap (u + f.limit) = u + f.limit := IntWalk.i64_in _ (by omega)
              clear hu hone
              go_upto_region 9 with fail
              refine wp_region_quiet_tail 14 (by kernel_rfl) (by kernel_rfl) ?_
              simp only [List.take_succ_cons, List.take_zero, List.drop_succ_cons, List.drop_zero]
              repeat (go_big_quiet_step (fail))
              refine wpQuiet_nil ?_
              have HL9 : Hid (LiveW w.heap.size w4 (linesT F g.lines zeroT (k + 1)) (w8.setCell ⟨w.heap.size + 3, b * 22 + a, none⟩ (.int .i64 (u + f.limit))).drew) := by
                have h1 := HL8.out.put (i := b) ha22 (u + f.limit)
                rw [HST.out]
                unfold lineT
                rw [if_pos HON.out, if_neg (by rw [HNE.out]; decide), HFA.out, HFB.out, Int.toNat_natCast, Int.toNat_natCast]
                rw [← HU.out] at h1 ⊢
                exact h1
              go_wp2_with fail
              go_roundw
              case rel => exact ⟨k + 1, HLT.out, by go_num, HL9⟩
              case measure => simp [intOf]; have := HLT.out; omega
            · have HL9 : Hid (LiveW w.heap.size w4 (linesT F g.lines zeroT (k + 1)) w8) := by
                show LiveW _ _ _ _
                rw [HST.out]
                unfold lineT
                rw [if_pos HON.out, if_pos hone, HFA.out, HFB.out, Int.toNat_natCast, Int.toNat_natCast]
                exact HL8.out
              rw [hone] at d3
              clear hone
              go_wp2_with fail
              go_roundw
              case rel => exact ⟨k + 1, HLT.out, by go_num, HL9⟩
              case measure => simp [intOf]; have := HLT.out; omega
          · have B3 := Lib.hid b3
            clear b3
            have HON : Hid (lineOn F k f = false) := by show lineOn F k f = false; unfold lineOn; rw [B1.out, HFA.out, B2.out, HFB.out, B3.out]; rfl
            have HEQ : Hid (linesT F g.lines zeroT (k + 1) = c) := by show _ = _; rw [HST.out]; unfold lineT; rw [if_neg (by rw [HON.out]; decide)]
            go_wp2_with (first
              | (go_at_call 95; refine (lost_any A cap F 2 k _ (HG.out _ HL1.out.bel).2 B1.out).mono ?_; rintro e w5 ⟨rfl, hb5⟩; obtain ⟨d0, d1, d2, d3⟩ := HLC.out w5 hb5; have HB5 := Lib.hid hb5; have HL5 := Lib.hid (HL1.out.later hb5); clear hb5)
              | (go_at_call 94; (with_reducible refine (gone_any (w.heap.size + 1) A cap F a w5 (HTB.out _ HL5.out) (HG.out _ HL5.out.bel).2 B2.out).mono ?_); rintro e w6 ⟨rfl, hb6⟩; clear d0 d1 d2 d3; have HB6 := Lib.hid (HB5.out.trans (hb6.mono HB5.out.size)); obtain ⟨d0, d1, d2, d3⟩ := HLC.out w6 HB6.out; have HL6 := Lib.hid (HL5.out.later hb6); clear hb6)
              | (go_at_call 94; (with_reducible refine (gone_any (w.heap.size + 1) A cap F b w6 (HTB.out _ HL6.out) (HG.out _ HL6.out.bel).2 B3.out).mono ?_); rintro e w7 ⟨rfl, hb7⟩; clear d0 d1 d2 d3; have HB7 := Lib.hid (HB6.out.trans (hb7.mono HB6.out.size)); obtain ⟨d0, d1, d2, d3⟩ := HLC.out w7 HB7.out; have HL7 := Lib.hid (HL6.out.later hb7); clear hb7))
            go_roundw
            case rel => exact ⟨k + 1, HLT.out, by go_num, by rw [HEQ.out]; exact HL7⟩
            case measure => simp [intOf]; have := HLT.out; omega
        · have B2 := Lib.hid b2
          clear b2
          have HON : Hid (lineOn F k f = false) := by show lineOn F k f = false; unfold lineOn; rw [B1.out, HFA.out, B2.out]; rfl
          have HEQ : Hid (linesT F g.lines zeroT (k + 1) = c) := by show _ = _; rw [HST.out]; unfold lineT; rw [if_neg (by rw [HON.out]; decide)]
          go_wp2_with (first
            | (go_at_call 95; refine (lost_any A cap F 2 k _ (HG.out _ HL1.out.bel).2 B1.out).mono ?_; rintro e w5 ⟨rfl, hb5⟩; obtain ⟨d0, d1, d2, d3⟩ := HLC.out w5 hb5; have HB5 := Lib.hid hb5; have HL5 := Lib.hid (HL1.out.later hb5); clear hb5)
            | (go_at_call 94; (with_reducible refine (gone_any (w.heap.size + 1) A cap F a w5 (HTB.out _ HL5.out) (HG.out _ HL5.out.bel).2 B2.out).mono ?_); rintro e w6 ⟨rfl, hb6⟩; clear d0 d1 d2 d3; have HB6 := Lib.hid (HB5.out.trans (hb6.mono HB5.out.size)); obtain ⟨d0, d1, d2, d3⟩ := HLC.out w6 HB6.out; have HL6 := Lib.hid (HL5.out.later hb6); clear hb6))
          go_roundw
          case rel => exact ⟨k + 1, HLT.out, by go_num, by rw [HEQ.out]; exact HL6⟩
          case measure => simp [intOf]; have := HLT.out; omega
      · have B1 := Lib.hid b1
        clear b1
        have HON : Hid (lineOn F k f = false) := by show lineOn F k f = false; unfold lineOn; rw [B1.out]; rfl
        have HEQ : Hid (linesT F g.lines zeroT (k + 1) = c) := by show _ = _; rw [HST.out]; unfold lineT; rw [if_neg (by rw [HON.out]; decide)]
        go_wp2_with (first
          | (go_at_call 95; refine (lost_any A cap F 2 k _ (HG.out _ HL1.out.bel).2 B1.out).mono ?_; rintro e w5 ⟨rfl, hb5⟩; obtain ⟨d0, d1, d2, d3⟩ := HLC.out w5 hb5; have HB5 := Lib.hid hb5; have HL5 := Lib.hid (HL1.out.later hb5); clear hb5))
        go_roundw
        case rel => exact ⟨k + 1, HLT.out, by go_num, by rw [HEQ.out]; exact HL5⟩
        case measure => simp [intOf]; have := HLT.out; omega
    · obtain rfl : g.lines.length = k := by omega
      have hbx := (HX.out wr HL.out.bel).2.1
      have p2 := cell_of_row wr _ 2 _ _ _ hbx
      simp only [List.getElem?_toArray, List.getElem?_cons_succ, List.getElem?_cons_zero] at p2
      clear hbx
      go_wp2_with fail
      go_loopw [70] (fun vi wr => ∃ k : Nat, k ≤ g.srcs.length ∧ vi = .int .i64 k ∧ Hid (LiveW w.heap.size w4 (srcsT F 20 g.srcs (linesT F g.lines zeroT g.lines.length) k) wr)) (fun vi _ => g.srcs.length - (intOf vi).toNat)
      case atStart => exact ⟨0, Nat.zero_le _, rfl, HL⟩
      case round =>
        clear HL p2
        obtain ⟨k, hk, rfl, HL⟩ := hrel
        rename World => wr
        by_cases hlt : k < g.srcs.length
        · obtain ⟨f, lb, lo, hfe, hA, hlb, f0, f1⟩ := (HG.out wr HL.out.bel).1.ss.at_ hlt
          subst hA
          have hfm : f ∈ g.srcs := by rw [← hfe]; exact getD_mem_of hlt dSrc
          obtain ⟨hfa, hf1, hf2⟩ := HGO.out.src f hfm
          have hn := HGO.out.few
          obtain ⟨a, ha⟩ : ∃ a : Nat, f.node = (a : Int) := ⟨f.node.toNat, by omega⟩
          have ha22 : a < 22 := by omega
          rw [ha] at f0
          have hst : srcsT F 20 g.srcs (linesT F g.lines zeroT g.lines.length) (k + 1) = srcT F 20 (srcsT F 20 g.srcs (linesT F g.lines zeroT g.lines.length) k) k f := by show srcT F 20 _ k (g.srcs.getD k dSrc) = _; rw [hfe]
          have HBD : Hid (Bd (srcsT F 20 g.srcs (linesT F g.lines zeroT g.lines.length) k) 9600000) := HGO.out.liveBd hk
          have HST := Lib.hid hst
          have HFA := Lib.hid ha
          have HLT := Lib.hid hlt
          clear hfe hfm hfa hn ha hst
          generalize srcsT F 20 g.srcs (linesT F g.lines zeroT g.lines.length) k = c at *
          have hal : Below wr.heap.size wr (wr.alloc (.cells #[.int .i64 a, .int .i64 f.power] 57)) := (Below.refl _ _).alloc (Nat.le_refl _) _
          have HL1 : Hid (LiveW w.heap.size w4 c (wr.alloc (.cells #[.int .i64 a, .int .i64 f.power] 57))) := HL.out.later hal
          have HLC : Hid (∀ W, Below (wr.alloc (.cells #[.int .i64 a, .int .i64 f.power] 57)).heap.size (wr.alloc (.cells #[.int .i64 a, .int .i64 f.power] 57)) W → W.cell? ⟨wr.heap.size, 0, none⟩ = some (.int .i64 a) ∧ W.cell? ⟨wr.heap.size, 1, none⟩ = some (.int .i64 f.power)) := fun W hW => by
            have h1 := (hW.block wr.heap.size (by simp)).trans (heap_alloc_new wr (.cells #[.int .i64 a, .int .i64 f.power] 57))
            exact ⟨cell_of_row W _ 0 _ _ _ h1, cell_of_row W _ 1 _ _ _ h1⟩
          have hxs := HL.out.siz
          have HTB : Hid (∀ W, LiveW w.heap.size w4 c W → W.cell? ⟨w.heap.size + 1, 0, none⟩ = some (.slice A F.length cap)) := fun W hW => cell_of_row W _ 0 _ _ _ (HX.out W hW.bel).2.2
          have tb := HTB.out _ HL1.out
          clear hal HL
          rcases b1 : lostB F 1 k
          · have B1 := Lib.hid b1
            clear b1
            rcases b2 : lostB F 3 a
            · have B2 := Lib.hid b2
              clear b2
              go_upto_region 15 with (first
                | (go_at_call 95; refine (lost_any A cap F 1 k _ (HG.out _ HL1.out.bel).2 B1.out).mono ?_; rintro e w5 ⟨rfl, hb5⟩; obtain ⟨d0, d1⟩ := HLC.out w5 hb5; have HB5 := Lib.hid hb5; have HL5 := Lib.hid (HL1.out.later hb5); clear hb5)
                | (go_at_call 94; (with_reducible refine (gone_any (w.heap.size + 1) A cap F a w5 (HTB.out _ HL5.out) (HG.out _ HL5.out.bel).2 B2.out).mono ?_); rintro e w6 ⟨rfl, hb6⟩; clear d0 d1; have HB6 := Lib.hid (HB5.out.trans (hb6.mono HB5.out.size)); obtain ⟨d0, d1⟩ := HLC.out w6 HB6.out; have HL6 := Lib.hid (HL5.out.later hb6); clear hb6))
              have HON : Hid (srcOn F k f = true) := by show srcOn F k f = true; unfold srcOn; rw [B1.out, HFA.out, B2.out]; rfl
              have hba := HBD.out 20 a
              have ct : w6.cell? ⟨w.heap.size + 3, 440 + a, none⟩ = some (.int .i64 (c 20 a)) := HL6.out.tab.cell (i := 20) (by decide) ha22
              have cf := HL6.out.tab.fr (440 + a)
              have e1 : IntKind.i64.wrap (c 20 a + f.power) = c 20 a + f.power := IntWalk.i64_in _ (by omega)
              refine wp_region_quiet_tail 12 (by kernel_rfl) (by kernel_rfl) ?_
              simp only [List.take_succ_cons, List.take_zero, List.drop_succ_cons, List.drop_zero]
              repeat (go_big_quiet_step (fail))
              refine wpQuiet_nil ?_
              have HL8 : Hid (LiveW w.heap.size w4 (srcsT F 20 g.srcs (linesT F g.lines zeroT g.lines.length) (k + 1)) (w6.setCell ⟨w.heap.size + 3, 440 + a, none⟩ (.int .i64 (c 20 a + f.power))).drew) := by
                show LiveW _ _ _ _
                rw [HST.out]
                unfold srcT
                rw [if_pos HON.out, HFA.out, Int.toNat_natCast]
                exact HL6.out.put (i := 20) ha22 _
              go_wp2_with fail
              go_roundw
              case rel => exact ⟨k + 1, HLT.out, by go_num, HL8⟩
              case measure => simp [intOf]; have := HLT.out; omega
            · have B2 := Lib.hid b2
              clear b2
              have HON : Hid (srcOn F k f = false) := by show srcOn F k f = false; unfold srcOn; rw [B1.out, HFA.out, B2.out]; rfl
              have HEQ : Hid (srcsT F 20 g.srcs (linesT F g.lines zeroT g.lines.length) (k + 1) = c) := by show _ = _; rw [HST.out]; unfold srcT; rw [if_neg (by rw [HON.out]; decide)]
              go_wp2_with (first
                | (go_at_call 95; refine (lost_any A cap F 1 k _ (HG.out _ HL1.out.bel).2 B1.out).mono ?_; rintro e w5 ⟨rfl, hb5⟩; obtain ⟨d0, d1⟩ := HLC.out w5 hb5; have HB5 := Lib.hid hb5; have HL5 := Lib.hid (HL1.out.later hb5); clear hb5)
                | (go_at_call 94; (with_reducible refine (gone_any (w.heap.size + 1) A cap F a w5 (HTB.out _ HL5.out) (HG.out _ HL5.out.bel).2 B2.out).mono ?_); rintro e w6 ⟨rfl, hb6⟩; clear d0 d1; have HB6 := Lib.hid (HB5.out.trans (hb6.mono HB5.out.size)); obtain ⟨d0, d1⟩ := HLC.out w6 HB6.out; have HL6 := Lib.hid (HL5.out.later hb6); clear hb6))
              go_roundw
              case rel => exact ⟨k + 1, HLT.out, by go_num, by rw [HEQ.out]; exact HL6⟩
              case measure => simp [intOf]; have := HLT.out; omega
          · have B1 := Lib.hid b1
            clear b1
            have HON : Hid (srcOn F k f = false) := by show srcOn F k f = false; unfold srcOn; rw [B1.out]; rfl
            have HEQ : Hid (srcsT F 20 g.srcs (linesT F g.lines zeroT g.lines.length) (k + 1) = c) := by show _ = _; rw [HST.out]; unfold srcT; rw [if_neg (by rw [HON.out]; decide)]
            go_wp2_with (first
              | (go_at_call 95; refine (lost_any A cap F 1 k _ (HG.out _ HL1.out.bel).2 B1.out).mono ?_; rintro e w5 ⟨rfl, hb5⟩; obtain ⟨d0, d1⟩ := HLC.out w5 hb5; have HB5 := Lib.hid hb5; have HL5 := Lib.hid (HL1.out.later hb5); clear hb5))
            go_roundw
            case rel => exact ⟨k + 1, HLT.out, by go_num, by rw [HEQ.out]; exact HL5⟩
            case measure => simp [intOf]; have := HLT.out; omega
        · obtain rfl : g.srcs.length = k := by omega
          obtain ⟨C, hC1, hC2⟩ := HL.out.tab
          obtain ⟨old, ho1, ho2⟩ := HL.out.res
          have HC := Lib.hid hC2
          have HLD := Lib.hid hC1
          have HOLD := Lib.hid ho1
          have hos : old.size = C.size := by rw [ho2.1, hC2.1]
          have HOS := Lib.hid hos
          clear hC1 hC2 ho1 ho2 hos
          obtain ⟨d, hu⟩ : ∃ d, Try.prog.underlying 86 = some (.struct d) := ⟨_, Try.underlying86⟩
          go_wp2_with (first
            | (refine wpList_load_row rfl 86 _ rfl (w.heap.size + 3) rfl 86 C (0, 0) (.struct d) HLD.out hu rfl HC.out.sz ?_)
            | (refine wpList_store_row rfl 86 _ _ rfl (w.heap.size + 2) C rfl rfl 86 old HOLD.out HC.out.sz HOS.out HC.out.one ?_))
          exact bodyPost_ret (results_cell_row rfl _ _ (w.heap.size + 2) 86 C (0, 0) (.struct d) rfl (setRow_heap wr (w.heap.size + 2) old C 86 (0, 0) HOLD.out) hu rfl HC.out.sz) rfl ⟨⟨C, rfl, HC.out⟩, below_setRow (HX.out wr HL.out.bel).1 (by omega) C⟩
end Go.Proofs.Ytegclodchhcbaaa
