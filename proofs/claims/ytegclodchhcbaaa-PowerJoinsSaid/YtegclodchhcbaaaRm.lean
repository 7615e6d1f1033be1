/- Walk: room, the reference's table of a case. -/
import Derived.Test.YtegclodchhcbaaaRf
import Derived.Test.YtegclodchhcbaaaLv
import Derived.Deep.RegionHeld3
namespace Go.Proofs.Ytegclodchhcbaaa
open Go.RowKit

theorem info_row : (Try.prog.info? 28).map (fun i => (i.zero, i.size, i.bytes)) = some (some (.slice none 0 0), 1, 24) := by kernel_rfl
theorem under_rows : Try.prog.underlying 92 = some (.slice 28) := by kernel_rfl
section
variable {ops : Array Oper} {rest : List Oper} {o : Oper} {a : Act} {Q : Exit → Act → World → Prop}
theorem mk_rows (w : World) (hg : o.guard = none) (l c : Operand) (hop : o.op = .makeSlice 92 l c) (n : Nat) (hl : a.eval l = .int .i64 (n : Int)) (hc : a.eval c = .int .i64 (n : Int)) (hn : n ≤ 1000000)
    (hK : ∀ w', OwnF w' w.heap.size 28 n (fun _ => .slice none 0 0) → Below w.heap.size w w' → wpList Try.prog ops Q rest (a.put o.dst (.slice (some ⟨w.heap.size, 0, none⟩) n n)) w') : wpList Try.prog ops Q (o :: rest) a w := by
  obtain ⟨i0, hi, hz0, hz1, hz2⟩ := info_parts info_row
  refine wpList_make_full w hg l c 92 hop w.heap.size 28 i0 (.slice none 0 0) 1 under_rows hi hz0 hz1 .i64 .i64 _ _ n hl hc rfl rfl (by rw [hz2]; omega) (by unfold maxLen; omega) (Nat.le_refl _) (fun w' h1 h2 => hK w' ?_ ?_)
  · exact (OwnF.of_row h1 rfl).congr fun j hj => made_get hj
  · exact (Below.refl _ _).grown h2 (Nat.le_refl _) (fun k hk => by cases hk)
end
/-- the first k rows are made -/
structure RPart (w : World) (B tb N : Nat) (rb : Nat → Nat) (k : Nat) : Prop where
  out : OwnF w tb 28 N (fun i => if i < k then .slice (some ⟨rb i, 0, none⟩) N N else .slice none 0 0)
  row : ∀ i, i < k → OwnF w (rb i) 3 N (fun _ => .int .i64 0)
  bt : B ≤ tb
  br : ∀ i, i < k → tb < rb i
  inj : ∀ i j, i < k → j < k → rb i = rb j → i = j
theorem RPart.step {w w1 : World} {B tb N : Nat} {rb : Nat → Nat} {k : Nat} (h : RPart w B tb N rb k) (hO : OwnF w1 w.heap.size 3 N (fun _ => .int .i64 0)) (hb : Below w.heap.size w w1) :
    RPart (w1.setCell ⟨tb, k, none⟩ (.slice (some ⟨w.heap.size, 0, none⟩) N N)) B tb N (fun i => if i = k then w.heap.size else rb i) (k + 1) := by
  have ht := h.out.lt
  have hr : ∀ i, i < k → rb i < w.heap.size := fun i hi => (h.row i hi).lt
  refine ⟨((h.out.below hb ht).set k _).congr fun j _ => ?_, fun i hi => ?_, h.bt, fun i hi => ?_, fun i j hi hj he => ?_⟩
  · show (if j = k then Value.slice (some ⟨w.heap.size, 0, none⟩) N N else if j < k then .slice (some ⟨rb j, 0, none⟩) N N else .slice none 0 0) = if j < k + 1 then .slice (some ⟨if j = k then w.heap.size else rb j, 0, none⟩) N N else .slice none 0 0
    by_cases e : j = k
    · rw [if_pos e, if_pos (by omega), if_pos e]
    · rw [if_neg e, if_neg e]
      by_cases e2 : j < k
      · rw [if_pos e2, if_pos (by omega)]
      · rw [if_neg e2, if_neg (by omega)]
  · show OwnF _ (if i = k then w.heap.size else rb i) 3 N _
    by_cases e : i = k
    · rw [if_pos e]
      exact hO.far (p := ⟨tb, k, none⟩) (by show w.heap.size ≠ tb; omega) _
    · rw [if_neg e]
      have h1 := h.br i (by omega)
      exact ((h.row i (by omega)).below hb (hr i (by omega))).far (p := ⟨tb, k, none⟩) (by show rb i ≠ tb; omega) _
  · show tb < if i = k then w.heap.size else rb i
    by_cases e : i = k
    · rw [if_pos e]; exact ht
    · rw [if_neg e]; exact h.br i (by omega)
  · have he : (if i = k then w.heap.size else rb i) = (if j = k then w.heap.size else rb j) := he
    by_cases e : i = k <;> by_cases e2 : j = k
    · omega
    · rw [if_pos e, if_neg e2] at he
      have := hr j (by omega)
      omega
    · rw [if_neg e, if_pos e2] at he
      have := hr i (by omega)
      omega
    · rw [if_neg e, if_neg e2] at he
      exact h.inj i j (by omega) (by omega) he
theorem RPart.full {w : World} {B tb N : Nat} {rb : Nat → Nat} (h : RPart w B tb N rb N) : RTabA w B tb N rb zeroT :=
  ⟨h.out.congr fun i hi => by rw [if_pos hi], fun i hi => h.row i hi, h.bt, fun i hi => by have := h.br i hi; have := h.bt; omega, fun i hi => by have := h.br i hi; omega, h.inj⟩
/-- room's memory -/
structure RoomW (w : World) (box : Obj) (tb N : Nat) (rb : Nat → Nat) (c : Tab) (wr : World) : Prop where
  tab : RTabA wr (w.heap.size + 1) tb N rb c
  box : wr.heap[w.heap.size]? = some box
  bel : Below w.heap.size w wr
theorem RoomW.later {w : World} {box : Obj} {tb N : Nat} {rb : Nat → Nat} {c : Tab} {wr w' : World} (h : RoomW w box tb N rb c wr) (hb : Below wr.heap.size wr w') : RoomW w box tb N rb c w' :=
  ⟨h.tab.below hb (Nat.le_refl _), (hb.block _ (lt_of_cells h.box)).trans h.box, h.bel.trans (hb.mono h.bel.size)⟩
theorem RoomW.put {w : World} {box : Obj} {tb N : Nat} {rb : Nat → Nat} {c : Tab} {wr : World} (h : RoomW w box tb N rb c wr) {i : Nat} (hi : i < N) (k : Nat) (v : Int) : RoomW w box tb N rb (upd c i k v) (wr.setCell ⟨rb i, k, none⟩ (.int .i64 v)).drew := by
  have h1 := h.tab.br i hi
  exact ⟨(h.tab.put hi k v).drewN 1, (Below.heap_setCell wr ⟨rb i, k, none⟩ _ _ (by show w.heap.size ≠ rb i; omega)).trans h.box, (h.bel.setCell (p := ⟨rb i, k, none⟩) (by show w.heap.size ≤ rb i; omega) _).drew⟩
theorem RTabA.base {w : World} {B B' tb N : Nat} {rb : Nat → Nat} {c : Tab} (h : RTabA w B tb N rb c) (hB : B' ≤ B) : RTabA w B' tb N rb c := ⟨h.out, h.row, Nat.le_trans hB h.bt, fun i hi => Nat.le_trans hB (h.br i hi), h.ne, h.inj⟩
set_option maxRecDepth 100000 in
set_option maxHeartbeats 8000000 in
theorem room_any (g : MGrid) (n : Nat) (A1 A2 A3 : Option Addr) (c1 c2 c3 : Nat) (A : Option Addr) (cap : Nat) (F : List MFault) (Aw : Option Addr) (wc : Nat) (want : List Int) (w : World) (h : GridA w w.heap.size g A1 A2 A3) (hf : FaultsA w w.heap.size A F) (hw : IntsA w w.heap.size Aw want) (hg : GridOk g n) (hwo : WantOk g want) (hwl : want.length ≤ 100) :
    Calls Try.prog 63 #[.agg (gridC g A1 A2 A3 c1 c2 c3), .slice A F.length cap, .slice Aw want.length wc] w fun e w' => (∃ tb rb, e = .returned (.slice (some ⟨tb, 0, none⟩) (n + 2) (n + 2)) ∧ RTabA w' w.heap.size tb (n + 2) rb (refT g F want n (n + 1))) ∧ Below w.heap.size w w' := by
  unfold gridC
  rw [hg.nodes]
  obtain ⟨box, hbox⟩ : ∃ box : Obj, (.cells #[.int .i64 n, .slice A1 g.lines.length c1, .slice A2 g.srcs.length c2, .slice A3 g.users.length c3] 26 (0, 0)) = box := ⟨_, rfl⟩
  obtain ⟨w1, hw1⟩ : ∃ w1, w.alloc (.cells #[.int .i64 n, .slice A1 g.lines.length c1, .slice A2 g.srcs.length c2, .slice A3 g.users.length c3] 26) = w1 := ⟨_, rfl⟩
  have hb1 : Below w.heap.size w w1 := by rw [← hw1]; exact (Below.refl _ _).alloc (Nat.le_refl _) _
  have hs1 : w1.heap.size = w.heap.size + 1 := by rw [← hw1]; simp
  have hx1 : w1.heap[w.heap.size]? = some box := by rw [← hw1, ← hbox]; exact heap_alloc_new w _
  have HBX : Hid (∀ W : World, W.heap[w.heap.size]? = some box → W.cell? ⟨w.heap.size, 0, none⟩ = some (.int .i64 n) ∧ W.cell? ⟨w.heap.size, 1, none⟩ = some (.slice A1 g.lines.length c1) ∧ W.cell? ⟨w.heap.size, 2, none⟩ = some (.slice A2 g.srcs.length c2) ∧ W.cell? ⟨w.heap.size, 3, none⟩ = some (.slice A3 g.users.length c3)) := fun W hW => by
    rw [← hbox] at hW
    exact ⟨cell_of_row W _ 0 _ _ _ hW, cell_of_row W _ 1 _ _ _ hW, cell_of_row W _ 2 _ _ _ hW, cell_of_row W _ 3 _ _ _ hW⟩
  have HG : Hid (∀ W, Below w.heap.size w W → GridA W W.heap.size g A1 A2 A3 ∧ FaultsA W W.heap.size A F ∧ IntsA W W.heap.size Aw want) := fun W hW => ⟨(h.keep hW).more hW.size, (hf.keep hW).more hW.size, (hw.below hW (Nat.le_refl _)).more hW.size⟩
  obtain ⟨p0, p1, p2, p3⟩ := HBX.out w1 hx1
  have HGO := Lib.hid hg
  have HWO := Lib.hid hwo
  have hnn := hg.few
  have hln := hg.nl
  have hsn := hg.ns
  have hun := hg.nu
  have HB1 := Lib.hid hb1
  have HX1 := Lib.hid hx1
  clear h hf hw hg hwo hbox hb1 hx1
  go_enter Try.func63, Try.ntmps63
  go_wp2_with (at_make; refine mk_rows _ rfl _ _ rfl (n + 2) rfl rfl (by omega) ?_; intro w2 hO2 hb2; have HO2 := Lib.hid hO2; have HB2 := Lib.hid hb2; clear hO2 hb2)
  have HBB2 : Hid (Below w.heap.size w w2) := HB1.out.trans (HB2.out.mono (by omega))
  have HX2 : Hid (w2.heap[w.heap.size]? = some box) := (HB2.out.block _ (by omega)).trans HX1.out
  have HR2 : Hid (RPart w2 (w.heap.size + 1) (w.heap.size + 1) (n + 2) (fun _ => 0) 0) := by
    have h1 := HO2.out
    rw [hs1] at h1
    exact ⟨h1.congr fun i _ => by rw [if_neg (Nat.not_lt_zero i)], fun i hi => absurd hi (Nat.not_lt_zero i), Nat.le_refl _, fun i hi => absurd hi (Nat.not_lt_zero i), fun i _ hi => absurd hi (Nat.not_lt_zero i)⟩
  clear p0 p1 p2 p3 HX1 HB2 HO2 HB1
  go_loopw [8] (fun vi wr => ∃ i : Nat, i ≤ n + 2 ∧ vi = .int .i64 i ∧ ∃ rb, Hid (RPart wr (w.heap.size + 1) (w.heap.size + 1) (n + 2) rb i) ∧ Hid (wr.heap[w.heap.size]? = some box) ∧ Hid (Below w.heap.size w wr)) (fun vi _ => n + 2 - (intOf vi).toNat)
  case atStart => exact ⟨0, Nat.zero_le _, rfl, _, HR2, HX2, HBB2⟩
  case round =>
    clear HR2 HX2 HBB2
    obtain ⟨i, hi, rfl, rb, HR, HX, HB⟩ := hrel
    rename World => wr
    obtain ⟨p0, p1, p2, p3⟩ := HBX.out wr HX.out
    have hxl := lt_of_cells HX.out
    have htl := HR.out.out.lt
    by_cases hlt : i < n + 2
    · have HLT := Lib.hid hlt
      go_wp2_with (at_make; refine mk_ints _ rfl _ _ rfl (n + 2) rfl rfl (by omega) ?_; intro w5 hO5 hb5; have hoo := HR.out.out.below hb5 htl; have k0 := hoo.cell hlt; have kf := hoo.frozen i; have HRS := Lib.hid (HR.out.step hO5 hb5); have HB5 := Lib.hid hb5; clear hO5 hb5 hoo)
      go_roundw
      case rel => exact ⟨i + 1, HLT.out, by go_num, _, HRS, (Below.heap_setCell w5 ⟨w.heap.size + 1, i, none⟩ _ _ (by show w.heap.size ≠ w.heap.size + 1; omega)).trans ((HB5.out.block _ hxl).trans HX.out), (HB.out.trans (HB5.out.mono HB.out.size)).setCell (p := ⟨w.heap.size + 1, i, none⟩) (Nat.le_succ _) _⟩
      case measure => simp [intOf]; have := HLT.out; omega
    · obtain rfl : i = n + 2 := by omega
      have HRW : Hid (RoomW w box (w.heap.size + 1) (n + 2) rb zeroT wr) := ⟨HR.out.full, HX.out, HB.out⟩
      clear HR HX HB htl hxl
      go_wp2_with fail
      rw [show ((n + 2 : Nat) : Int) = (n : Int) + 2 from by omega]
      clear p0 p1 p2 p3
      go_loopw [9] (fun vi wr => ∃ k : Nat, k ≤ g.srcs.length ∧ vi = .int .i64 k ∧ Hid (RoomW w box (w.heap.size + 1) (n + 2) rb (srcsT F n g.srcs zeroT k) wr)) (fun vi _ => g.srcs.length - (intOf vi).toNat)
      case atStart => exact ⟨0, Nat.zero_le _, rfl, HRW⟩
      case round =>
        clear HRW
        obtain ⟨k, hk, rfl, HRW⟩ := hrel
        rename World => wr
        obtain ⟨p0, p1, p2, p3⟩ := HBX.out wr HRW.out.box
        have hxl := lt_of_cells HRW.out.box
        by_cases hlt : k < g.srcs.length
        · obtain ⟨f, lb, lo, hfe, hA, hlb, f0, f1⟩ := (HG.out wr HRW.out.bel).1.ss.at_ hlt
          subst hA
          have hfm : f ∈ g.srcs := by rw [← hfe]; exact getD_mem_of hlt dSrc
          obtain ⟨hfa, hf1, hf2⟩ := HGO.out.src f hfm
          obtain ⟨a, ha⟩ : ∃ a : Nat, f.node = (a : Int) := ⟨f.node.toNat, by omega⟩
          have han : a < n := by omega
          rw [ha] at f0
          have hst : srcsT F n g.srcs zeroT (k + 1) = srcT F n (srcsT F n g.srcs zeroT k) k f := by show srcT F n _ k (g.srcs.getD k dSrc) = _; rw [hfe]
          have HBD : Hid (Bd (srcsT F n g.srcs zeroT k) 600000) := HGO.out.srcsBd hk
          have HST := Lib.hid hst
          have HFA := Lib.hid ha
          have HLT := Lib.hid hlt
          clear hfe hfm hfa ha hst
          generalize srcsT F n g.srcs zeroT k = c at *
          have hal : Below wr.heap.size wr (wr.alloc (.cells #[.int .i64 a, .int .i64 f.power] 57)) := (Below.refl _ _).alloc (Nat.le_refl _) _
          have HL1 : Hid (RoomW w box (w.heap.size + 1) (n + 2) rb c (wr.alloc (.cells #[.int .i64 a, .int .i64 f.power] 57))) := HRW.out.later hal
          have hz := heap_alloc_new wr (.cells #[.int .i64 a, .int .i64 f.power] 57)
          have d0 := cell_of_row (wr.alloc (.cells #[.int .i64 a, .int .i64 f.power] 57)) _ 0 _ _ _ hz
          have d1 := cell_of_row (wr.alloc (.cells #[.int .i64 a, .int .i64 f.power] 57)) _ 1 _ _ _ hz
          simp only [List.getElem?_toArray, List.getElem?_cons_succ, List.getElem?_cons_zero] at d0 d1
          have HZ := Lib.hid hz
          obtain ⟨s0, s1, s2, s3⟩ := HBX.out _ HL1.out.box
          clear hz hal
          rcases b1 : lostB F 1 k
          · have B1 := Lib.hid b1
            clear b1
            rcases b2 : lostB F 3 a
            · have B2 := Lib.hid b2
              clear b2
              have HON : Hid (srcOn F k f = true) := by show srcOn F k f = true; unfold srcOn; rw [B1.out, HFA.out, B2.out]; rfl
              have hba := HBD.out n a
              go_upto_region 11 with (first
                | (go_at_call 96; refine (rlost_any A cap F 1 k _ (HG.out _ HL1.out.bel).2.1 B1.out).mono ?_; rintro e w5 ⟨rfl, rfl⟩)
                | (go_at_call 97; refine (rgone_any A cap F a _ (HG.out _ HL1.out.bel).2.1 B2.out).mono ?_; rintro e w6 ⟨rfl, rfl⟩))
              have ca := HL1.out.tab.out.cell (show n < n + 2 by omega)
              have cb := (HL1.out.tab.row n (show n < n + 2 by omega)).cell (show a < n + 2 by omega)
              have cf := (HL1.out.tab.row n (show n < n + 2 by omega)).frozen (a)
              have e1 : IntKind.i64.wrap (c n a + f.power) = c n a + f.power := IntWalk.i64_in _ (by omega)
              refine wp_region_quiet_tail 20 (by kernel_rfl) (by kernel_rfl) ?_
              simp only [List.take_succ_cons, List.take_zero, List.drop_succ_cons, List.drop_zero]
              repeat (go_big_quiet_step (fail))
              refine wpQuiet_nil ?_
              have HL8 : Hid (RoomW w box (w.heap.size + 1) (n + 2) rb (srcsT F n g.srcs zeroT (k + 1)) ((wr.alloc (.cells #[.int .i64 a, .int .i64 f.power] 57)).setCell ⟨rb n, a, none⟩ (.int .i64 (c n a + f.power))).drew) := by
                show RoomW _ _ _ _ _ _ _
                rw [HST.out]
                unfold srcT
                rw [if_pos HON.out, HFA.out, Int.toNat_natCast]
                exact HL1.out.put (by omega) _ _
              go_wp2_with fail
              go_roundw
              case rel => exact ⟨k + 1, HLT.out, by go_num, HL8⟩
              case measure => simp [intOf]; have := HLT.out; omega
            · have B2 := Lib.hid b2
              clear b2
              have HON : Hid (srcOn F k f = false) := by show srcOn F k f = false; unfold srcOn; rw [B1.out, HFA.out, B2.out]; rfl
              have HEQ : Hid (srcsT F n g.srcs zeroT (k + 1) = c) := by show _ = _; rw [HST.out]; unfold srcT; rw [if_neg (by rw [HON.out]; decide)]
              go_wp2_with (first
                | (go_at_call 96; refine (rlost_any A cap F 1 k _ (HG.out _ HL1.out.bel).2.1 B1.out).mono ?_; rintro e w5 ⟨rfl, rfl⟩)
                | (go_at_call 97; refine (rgone_any A cap F a _ (HG.out _ HL1.out.bel).2.1 B2.out).mono ?_; rintro e w6 ⟨rfl, rfl⟩))
              go_roundw
              case rel => exact ⟨k + 1, HLT.out, by go_num, by rw [HEQ.out]; exact HL1⟩
              case measure => simp [intOf]; have := HLT.out; omega
          · have B1 := Lib.hid b1
            clear b1
            have HON : Hid (srcOn F k f = false) := by show srcOn F k f = false; unfold srcOn; rw [B1.out]; rfl
            have HEQ : Hid (srcsT F n g.srcs zeroT (k + 1) = c) := by show _ = _; rw [HST.out]; unfold srcT; rw [if_neg (by rw [HON.out]; decide)]
            go_wp2_with (go_at_call 96; refine (rlost_any A cap F 1 k _ (HG.out _ HL1.out.bel).2.1 B1.out).mono ?_; rintro e w5 ⟨rfl, rfl⟩)
            go_roundw
            case rel => exact ⟨k + 1, HLT.out, by go_num, by rw [HEQ.out]; exact HL1⟩
            case measure => simp [intOf]; have := HLT.out; omega
        · obtain rfl : g.srcs.length = k := by omega
          clear hxl
          go_wp2_with fail
          clear p0 p1 p2 p3
          go_loopw [11] (fun vi wr => ∃ k : Nat, k ≤ g.lines.length ∧ vi = .int .i64 k ∧ Hid (RoomW w box (w.heap.size + 1) (n + 2) rb (linesT F g.lines (srcsT F n g.srcs zeroT g.srcs.length) k) wr)) (fun vi _ => g.lines.length - (intOf vi).toNat)
          case atStart => exact ⟨0, Nat.zero_le _, rfl, HRW⟩
          case round =>
            clear HRW
            obtain ⟨k, hk, rfl, HRW⟩ := hrel
            rename World => wr
            obtain ⟨p0, p1, p2, p3⟩ := HBX.out wr HRW.out.box
            have hxl := lt_of_cells HRW.out.box
            by_cases hlt : k < g.lines.length
            · obtain ⟨f, lb, lo, hfe, hA, hlb, f0, f1, f2, f3⟩ := (HG.out wr HRW.out.bel).1.ls.at_ hlt
              subst hA
              have hfm : f ∈ g.lines := by rw [← hfe]; exact getD_mem_of hlt dLine
              obtain ⟨hfa, hfb, hfab, hf1, hf2⟩ := HGO.out.line f hfm
              obtain ⟨a, ha⟩ : ∃ a : Nat, f.a = (a : Int) := ⟨f.a.toNat, by omega⟩
              obtain ⟨b, hb⟩ : ∃ b : Nat, f.b = (b : Int) := ⟨f.b.toNat, by omega⟩
              have han : a < n := by omega
              have hbn : b < n := by omega
              rw [ha] at f0
              rw [hb] at f1
              have hst : linesT F g.lines (srcsT F n g.srcs zeroT g.srcs.length) (k + 1) = lineT F (linesT F g.lines (srcsT F n g.srcs zeroT g.srcs.length) k) k f := by show lineT F _ k (g.lines.getD k dLine) = _; rw [hfe]
              have HBD : Hid (Bd (linesT F g.lines (srcsT F n g.srcs zeroT g.srcs.length) k) 9600000) := HGO.out.roomBd hk
              have HST := Lib.hid hst
              have HFA := Lib.hid ha
              have HFB := Lib.hid hb
              have HLT := Lib.hid hlt
              clear hfe hfm hfa hfb hfab ha hb hst
              generalize linesT F g.lines (srcsT F n g.srcs zeroT g.srcs.length) k = c at *
              have hal : Below wr.heap.size wr (wr.alloc (.cells #[.int .i64 a, .int .i64 b, .int .i64 f.limit, .bool f.one] 67)) := (Below.refl _ _).alloc (Nat.le_refl _) _
              have HL1 : Hid (RoomW w box (w.heap.size + 1) (n + 2) rb c (wr.alloc (.cells #[.int .i64 a, .int .i64 b, .int .i64 f.limit, .bool f.one] 67))) := HRW.out.later hal
              have hz := heap_alloc_new wr (.cells #[.int .i64 a, .int .i64 b, .int .i64 f.limit, .bool f.one] 67)
              have d0 := cell_of_row (wr.alloc (.cells #[.int .i64 a, .int .i64 b, .int .i64 f.limit, .bool f.one] 67)) _ 0 _ _ _ hz
              have d1 := cell_of_row (wr.alloc (.cells #[.int .i64 a, .int .i64 b, .int .i64 f.limit, .bool f.one] 67)) _ 1 _ _ _ hz
              have d2 := cell_of_row (wr.alloc (.cells #[.int .i64 a, .int .i64 b, .int .i64 f.limit, .bool f.one] 67)) _ 2 _ _ _ hz
              have d3 := cell_of_row (wr.alloc (.cells #[.int .i64 a, .int .i64 b, .int .i64 f.limit, .bool f.one] 67)) _ 3 _ _ _ hz
              simp only [List.getElem?_toArray, List.getElem?_cons_succ, List.getElem?_cons_zero] at d0 d1 d2 d3
              have HZ := Lib.hid hz
              obtain ⟨s0, s1, s2, s3⟩ := HBX.out _ HL1.out.box
              clear hz hal
              rcases b1 : lostB F 2 k
              · have B1 := Lib.hid b1
                clear b1
                rcases b2 : lostB F 3 a
                · have B2 := Lib.hid b2
                  clear b2
                  rcases b3 : lostB F 3 b
                  · have B3 := Lib.hid b3
                    clear b3
                    have HON : Hid (lineOn F k f = true) := by show lineOn F k f = true; unfold lineOn; rw [B1.out, HFA.out, B2.out, HFB.out, B3.out]; rfl
                    have hba := HBD.out a b
                    go_upto_region 17 with (first
                      | (go_at_call 96; refine (rlost_any A cap F 2 k _ (HG.out _ HL1.out.bel).2.1 B1.out).mono ?_; rintro e w5 ⟨rfl, rfl⟩)
                      | (go_at_call 97; (with_reducible refine (rgone_any A cap F a _ (HG.out _ HL1.out.bel).2.1 B2.out).mono ?_); rintro e w6 ⟨rfl, rfl⟩)
                      | (go_at_call 97; (with_reducible refine (rgone_any A cap F b _ (HG.out _ HL1.out.bel).2.1 B3.out).mono ?_); rintro e w7 ⟨rfl, rfl⟩))
                    have ca := HL1.out.tab.out.cell (show a < n + 2 by omega)
                    have cb := (HL1.out.tab.row a (show a < n + 2 by omega)).cell (show b < n + 2 by omega)
                    have cf := (HL1.out.tab.row a (show a < n + 2 by omega)).frozen (b)
                    have e1 : IntKind.i64.wrap (c a b + f.limit) = c a b + f.limit := IntWalk.i64_in _ (by omega)
                    refine wp_region_quiet_tail 20 (by kernel_rfl) (by kernel_rfl) ?_
                    simp only [List.take_succ_cons, List.take_zero, List.drop_succ_cons, List.drop_zero]
                    repeat (go_big_quiet_step (fail))
                    refine wpQuiet_nil ?_
                    go_upto_region 18 with fail
                    have HL8 : Hid (RoomW w box (w.heap.size + 1) (n + 2) rb (addT c a b f.limit) ((wr.alloc (.cells #[.int .i64 a, .int .i64 b, .int .i64 f.limit, .bool f.one] 67)).setCell ⟨rb a, b, none⟩ (.int .i64 (c a b + f.limit))).drew) := HL1.out.put (by omega) _ _
                    have hra := HL1.out.tab.br a (by omega)
                    have HB8 : Hid (((wr.alloc (.cells #[.int .i64 a, .int .i64 b, .int .i64 f.limit, .bool f.one] 67)).setCell ⟨rb a, b, none⟩ (.int .i64 (c a b + f.limit))).drew.heap[wr.heap.size]? = some (.cells #[.int .i64 a, .int .i64 b, .int .i64 f.limit, .bool f.one] 67 (0, 0))) := (Below.heap_setCell (wr.alloc (.cells #[.int .i64 a, .int .i64 b, .int .i64 f.limit, .bool f.one] 67)) ⟨rb a, b, none⟩ _ _ (by show wr.heap.size ≠ rb a; have := (HRW.out.tab.row a (by omega)).lt; omega)).trans HZ.out
                    generalize ((wr.alloc (.cells #[.int .i64 a, .int .i64 b, .int .i64 f.limit, .bool f.one] 67)).setCell ⟨rb a, b, none⟩ (.int .i64 (c a b + f.limit))).drew = w8 at *
                    clear ca cb cf e1 d0 d1 d2 d3 hba hra s0 s1 s2 s3
                    have hh8 := HB8.out
                    have d0 := cell_of_row w8 _ 0 _ _ _ hh8
                    have d1 := cell_of_row w8 _ 1 _ _ _ hh8
                    have d2 := cell_of_row w8 _ 2 _ _ _ hh8
                    have d3 := cell_of_row w8 _ 3 _ _ _ hh8
                    simp only [List.getElem?_toArray, List.getElem?_cons_succ, List.getElem?_cons_zero] at d0 d1 d2 d3
                    obtain ⟨s0, s1, s2, s3⟩ := HBX.out _ HL8.out.box
                    clear hh8
                    rcases hone : f.one
                    · have HNE : Hid (f.one = false) := hone
                      have HBE : Hid (Bd (addT c a b f.limit) 9800000) := (HBD.out.addT ⟨hf1, hf2⟩ a b).more (by omega)
                      have hba := HBE.out b a
                      obtain ⟨u, hu⟩ : ∃ u, addT c a b f.limit b a = u := ⟨_, rfl⟩
                      have HU := Lib.hid hu
                      have ca := HL8.out.tab.out.cell (show b < n + 2 by omega)
                      have cb := (HL8.out.tab.row b (show b < n + 2 by omega)).cell (show a < n + 2 by omega)
                      have cf := (HL8.out.tab.row b (show b < n + 2 by omega)).frozen a
                      rw [hu] at cb hba
                      rw [hone] at d3
                      have e1 : IntKind.i64.wrap (u + f.limit) = u + f.limit := IntWalk.i64_in _ (by omega)
                      clear hu hone
                      go_upto_region 19 with fail
                      refine wp_region_quiet_tail 20 (by kernel_rfl) (by kernel_rfl) ?_
                      simp only [List.take_succ_cons, List.take_zero, List.drop_succ_cons, List.drop_zero]
                      repeat (go_big_quiet_step (fail))
                      refine wpQuiet_nil ?_
                      have HL9 : Hid (RoomW w box (w.heap.size + 1) (n + 2) rb (linesT F g.lines (srcsT F n g.srcs zeroT g.srcs.length) (k + 1)) (w8.setCell ⟨rb b, a, none⟩ (.int .i64 (u + f.limit))).drew) := by
                        have h1 := HL8.out.put (i := b) (by omega) a (u + f.limit)
                        rw [HST.out]
                        unfold lineT
                        rw [if_pos HON.out, if_neg (by rw [HNE.out]; decide), HFA.out, HFB.out, Int.toNat_natCast, Int.toNat_natCast]
                        rw [← HU.out] at h1 ⊢
                        exact h1
                      go_wp2_with fail
                      go_roundw
                      case rel => exact ⟨k + 1, HLT.out, by go_num, HL9⟩
                      case measure => simp [intOf]; have := HLT.out; omega
                    · have HL9 : Hid (RoomW w box (w.heap.size + 1) (n + 2) rb (linesT F g.lines (srcsT F n g.srcs zeroT g.srcs.length) (k + 1)) w8) := by
                        show RoomW _ _ _ _ _ _ _
                        rw [HST.out]
                        unfold lineT
                        rw [if_pos HON.out, if_pos hone, HFA.out, HFB.out, Int.toNat_natCast, Int.toNat_natCast]
                        exact HL8.out
                      rw [hone] at d3
                      clear hone
                      go_wp2_with fail
                      go_roundw
                      case rel => exact ⟨k + 1, HLT.out, by go_num, HL9⟩
                      case measure => simp [intOf]; have := HLT.out; omega
                  · have B3 := Lib.hid b3
                    clear b3
                    have HON : Hid (lineOn F k f = false) := by show lineOn F k f = false; unfold lineOn; rw [B1.out, HFA.out, B2.out, HFB.out, B3.out]; rfl
                    have HEQ : Hid (linesT F g.lines (srcsT F n g.srcs zeroT g.srcs.length) (k + 1) = c) := by show _ = _; rw [HST.out]; unfold lineT; rw [if_neg (by rw [HON.out]; decide)]
                    go_wp2_with (first
                      | (go_at_call 96; refine (rlost_any A cap F 2 k _ (HG.out _ HL1.out.bel).2.1 B1.out).mono ?_; rintro e w5 ⟨rfl, rfl⟩)
                      | (go_at_call 97; (with_reducible refine (rgone_any A cap F a _ (HG.out _ HL1.out.bel).2.1 B2.out).mono ?_); rintro e w6 ⟨rfl, rfl⟩)
                      | (go_at_call 97; (with_reducible refine (rgone_any A cap F b _ (HG.out _ HL1.out.bel).2.1 B3.out).mono ?_); rintro e w7 ⟨rfl, rfl⟩))
                    go_roundw
                    case rel => exact ⟨k + 1, HLT.out, by go_num, by rw [HEQ.out]; exact HL1⟩
                    case measure => simp [intOf]; have := HLT.out; omega
                · have B2 := Lib.hid b2
                  clear b2
                  have HON : Hid (lineOn F k f = false) := by show lineOn F k f = false; unfold lineOn; rw [B1.out, HFA.out, B2.out]; rfl
                  have HEQ : Hid (linesT F g.lines (srcsT F n g.srcs zeroT g.srcs.length) (k + 1) = c) := by show _ = _; rw [HST.out]; unfold lineT; rw [if_neg (by rw [HON.out]; decide)]
                  go_wp2_with (first
                    | (go_at_call 96; refine (rlost_any A cap F 2 k _ (HG.out _ HL1.out.bel).2.1 B1.out).mono ?_; rintro e w5 ⟨rfl, rfl⟩)
                    | (go_at_call 97; (with_reducible refine (rgone_any A cap F a _ (HG.out _ HL1.out.bel).2.1 B2.out).mono ?_); rintro e w6 ⟨rfl, rfl⟩))
                  go_roundw
                  case rel => exact ⟨k + 1, HLT.out, by go_num, by rw [HEQ.out]; exact HL1⟩
                  case measure => simp [intOf]; have := HLT.out; omega
              · have B1 := Lib.hid b1
                clear b1
                have HON : Hid (lineOn F k f = false) := by show lineOn F k f = false; unfold lineOn; rw [B1.out]; rfl
                have HEQ : Hid (linesT F g.lines (srcsT F n g.srcs zeroT g.srcs.length) (k + 1) = c) := by show _ = _; rw [HST.out]; unfold lineT; rw [if_neg (by rw [HON.out]; decide)]
                go_wp2_with (go_at_call 96; refine (rlost_any A cap F 2 k _ (HG.out _ HL1.out.bel).2.1 B1.out).mono ?_; rintro e w5 ⟨rfl, rfl⟩)
                go_roundw
                case rel => exact ⟨k + 1, HLT.out, by go_num, by rw [HEQ.out]; exact HL1⟩
                case measure => simp [intOf]; have := HLT.out; omega
            · obtain rfl : g.lines.length = k := by omega
              clear hxl
              go_wp2_with fail
              clear p0 p1 p2 p3
              go_loopw [13] (fun vi wr => ∃ k : Nat, k ≤ want.length ∧ vi = .int .i64 k ∧ Hid (RoomW w box (w.heap.size + 1) (n + 2) rb (usersT F (n + 1) g.users want (linesT F g.lines (srcsT F n g.srcs zeroT g.srcs.length) g.lines.length) k) wr)) (fun vi _ => want.length - (intOf vi).toNat)
              case atStart => exact ⟨0, Nat.zero_le _, rfl, HRW⟩
              case round =>
                clear HRW
                obtain ⟨k, hk, rfl, HRW⟩ := hrel
                rename World => wr
                obtain ⟨p0, p1, p2, p3⟩ := HBX.out wr HRW.out.box
                have hxl := lt_of_cells HRW.out.box
                by_cases hlt : k < want.length
                · obtain ⟨ab, ao, hAw, hab, ax⟩ := (HG.out wr HRW.out.bel).2.2.at_ hlt
                  subst hAw
                  have hxo := HWO.out _ (getD_mem_of hlt 0)
                  obtain ⟨x, hx⟩ : ∃ x : Nat, want.getD k 0 = (x : Int) := ⟨(want.getD k 0).toNat, by omega⟩
                  have hxu : x < g.users.length := by omega
                  obtain ⟨f, lb, lo, hfe, hA, hlb, f0, f1, f2⟩ := (HG.out wr HRW.out.bel).1.us.at_ hxu
                  subst hA
                  have hfm : f ∈ g.users := by rw [← hfe]; exact getD_mem_of hxu dUser
                  obtain ⟨hfa, hf1, hf2⟩ := HGO.out.user f hfm
                  obtain ⟨a, ha⟩ : ∃ a : Nat, f.node = (a : Int) := ⟨f.node.toNat, by omega⟩
                  have han : a < n := by omega
                  rw [ha] at f0
                  rw [hx] at ax
                  have hst : usersT F (n + 1) g.users want (linesT F g.lines (srcsT F n g.srcs zeroT g.srcs.length) g.lines.length) (k + 1) = userT F (n + 1) (usersT F (n + 1) g.users want (linesT F g.lines (srcsT F n g.srcs zeroT g.srcs.length) g.lines.length) k) f := by show userT F (n + 1) _ (g.users.getD (want.getD k 0).toNat dUser) = _; rw [hx, Int.toNat_natCast, hfe]
                  have HBD : Hid (Bd (usersT F (n + 1) g.users want (linesT F g.lines (srcsT F n g.srcs zeroT g.srcs.length) g.lines.length) k) 109600000) := HGO.out.refBd HWO.out hwl hk
                  have HST := Lib.hid hst
                  have HFA := Lib.hid ha
                  have HLT := Lib.hid hlt
                  clear hfe hfm hfa ha hst hx hxo
                  generalize usersT F (n + 1) g.users want (linesT F g.lines (srcsT F n g.srcs zeroT g.srcs.length) g.lines.length) k = c at *
                  have HRD : Hid (RoomW w box (w.heap.size + 1) (n + 2) rb c wr.drew) := ⟨HRW.out.tab.drewN 1, HRW.out.box, HRW.out.bel.drew⟩
                  go_upto_region 23 with fail
                  go_region_held3 (fun W => W.cell? ⟨w.heap.size, 3, none⟩ = some (.slice (some ⟨lb, lo, none⟩) g.users.length c3) ∧ W.cell? ⟨ab, ao + k, none⟩ = some (.int .i64 x) ∧ W.cell? ⟨lb, lo + x * 3, none⟩ = some (.int .i64 a) ∧ W.cell? ⟨lb, lo + x * 3 + 1, none⟩ = some (.int .i64 f.power) ∧ W.cell? ⟨lb, lo + x * 3 + 2, none⟩ = some (.int .i64 f.level)) (first | exact ⟨p3, ax, f0, f1, f2⟩ | exact ⟨(acell _ _ _ _ hxl).trans p3, (acell _ _ _ _ hab).trans ax, (acell _ _ _ _ hlb).trans f0, (acell _ _ _ _ hlb).trans f1, (acell _ _ _ _ hlb).trans f2⟩ | go_keep) (fail)
                  have hz := heap_alloc_new wr (.cells #[.int .i64 a, .int .i64 f.power, .int .i64 f.level] 55)
                  have HL1 : Hid (RoomW w box (w.heap.size + 1) (n + 2) rb c (wr.alloc (.cells #[.int .i64 a, .int .i64 f.power, .int .i64 f.level] 55)).drew) := by
                    have h1 := HRW.out.later ((Below.refl wr.heap.size wr).alloc (Nat.le_refl _) (.cells #[.int .i64 a, .int .i64 f.power, .int .i64 f.level] 55))
                    exact ⟨h1.tab.drewN 1, h1.box, h1.bel.drew⟩
                  have d0 : (wr.alloc (.cells #[.int .i64 a, .int .i64 f.power, .int .i64 f.level] 55)).drew.cell? ⟨wr.heap.size, 0, none⟩ = some (.int .i64 a) := cell_of_row (wr.alloc (.cells #[.int .i64 a, .int .i64 f.power, .int .i64 f.level] 55)) _ 0 _ _ _ hz
                  have d1 : (wr.alloc (.cells #[.int .i64 a, .int .i64 f.power, .int .i64 f.level] 55)).drew.cell? ⟨wr.heap.size, 1, none⟩ = some (.int .i64 f.power) := cell_of_row (wr.alloc (.cells #[.int .i64 a, .int .i64 f.power, .int .i64 f.level] 55)) _ 1 _ _ _ hz
                  generalize (wr.alloc (.cells #[.int .i64 a, .int .i64 f.power, .int .i64 f.level] 55)).drew = w4 at *
                  clear hz p0 p1 p2 p3 ax f0 f1 f2 HRD
                  obtain ⟨s0, s1, s2, s3⟩ := HBX.out _ HL1.out.box
                  rcases b2 : lostB F 3 a
                  · have B2 := Lib.hid b2
                    clear b2
                    have hba := HBD.out a (n + 1)
                    go_upto_region 25 with (go_at_call 97; refine (rgone_any A cap F a _ (HG.out _ HL1.out.bel).2.1 B2.out).mono ?_; rintro e w6 ⟨rfl, rfl⟩)
                    have ca := HL1.out.tab.out.cell (show a < n + 2 by omega)
                    have cb := (HL1.out.tab.row a (show a < n + 2 by omega)).cell (show n + 1 < n + 2 by omega)
                    have cf := (HL1.out.tab.row a (show a < n + 2 by omega)).frozen (n + 1)
                    have e1 : IntKind.i64.wrap (c a (n + 1) + f.power) = c a (n + 1) + f.power := IntWalk.i64_in _ (by omega)
                    refine wp_region_quiet_tail 22 (by kernel_rfl) (by kernel_rfl) ?_
                    simp only [List.take_succ_cons, List.take_zero, List.drop_succ_cons, List.drop_zero]
                    repeat (go_big_quiet_step (fail))
                    refine wpQuiet_nil ?_
                    have HL8 : Hid (RoomW w box (w.heap.size + 1) (n + 2) rb (usersT F (n + 1) g.users want (linesT F g.lines (srcsT F n g.srcs zeroT g.srcs.length) g.lines.length) (k + 1)) (w4.setCell ⟨rb a, n + 1, none⟩ (.int .i64 (c a (n + 1) + f.power))).drew) := by
                      show RoomW _ _ _ _ _ _ _
                      rw [HST.out]
                      unfold userT
                      rw [HFA.out, if_neg (by rw [B2.out]; decide), Int.toNat_natCast]
                      exact HL1.out.put (by omega) _ _
                    go_wp2_with fail
                    go_roundw
                    case rel => exact ⟨k + 1, HLT.out, by go_num, HL8⟩
                    case measure => simp [intOf]; have := HLT.out; omega
                  · have B2 := Lib.hid b2
                    clear b2
                    have HEQ : Hid (usersT F (n + 1) g.users want (linesT F g.lines (srcsT F n g.srcs zeroT g.srcs.length) g.lines.length) (k + 1) = c) := by show _ = _; rw [HST.out]; unfold userT; rw [HFA.out, if_pos B2.out]
                    go_wp2_with (go_at_call 97; refine (rgone_any A cap F a _ (HG.out _ HL1.out.bel).2.1 B2.out).mono ?_; rintro e w6 ⟨rfl, rfl⟩)
                    go_roundw
                    case rel => exact ⟨k + 1, HLT.out, by go_num, by rw [HEQ.out]; exact HL1⟩
                    case measure => simp [intOf]; have := HLT.out; omega
                · obtain rfl : want.length = k := by omega
                  have HEND : Hid (RTabA wr w.heap.size (w.heap.size + 1) (n + 2) rb (refT g F want n (n + 1))) := HRW.out.tab.base (Nat.le_succ _)
                  go_wp2_with fail
                  go_ret
                  exact ⟨⟨_, rb, rfl, HEND.out⟩, HRW.out.bel⟩
end Go.Proofs.Ytegclodchhcbaaa
