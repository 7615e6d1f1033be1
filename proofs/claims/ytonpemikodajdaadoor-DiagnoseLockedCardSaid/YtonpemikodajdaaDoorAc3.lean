/- Walk: answer, a computer's reply to a request. -/
import Derived.Test.YtonpemikodajdaaDoorAc2
import Derived.Deep.DeepCutAuto
import Derived.Deep.CutBlock
import Derived.Laws.ResultCell
namespace Go.Proofs.YtonpemikodajdaaDoor
open Go.RowKit

def lateS (a : MAcc) (c : MComp) (r : MReq) : MComp := if c.ses ≠ 0 ∧ a.idle < r.at_ - c.last then resetS c else c
def bodyS (a : MAcc) (c : MComp) (r : MReq) : MComp × (Int × Int) :=
  if r.serv = 1 then ((changeS c r.val).1, ((changeS c r.val).2, 0))
  else if r.serv = 2 ∨ r.serv = 3 then
    (if c.ses = 0 then (c, (4, 0)) else if r.at_ < c.til then (c, (3, 0)) else if r.serv = 3 then ((tryS a c r).1, ((tryS a c r).2, 0))
    else ({ c with seed := (c.seeds * 7919 + 13) % 65536, seeds := c.seeds + 1 }, (0, (c.seeds * 7919 + 13) % 65536)))
  else if r.serv = 4 then (if c.ses ≠ 2 then (c, (4, 0)) else if c.unl = false then (c, (1, 0)) else (c, (0, r.val)))
  else if r.serv = 5 then (c, (0, 0)) else (c, (6, 0))
def answerS (a : MAcc) (c : MComp) (r : MReq) : MComp × (Int × Int) := bodyS a { lateS a c r with last := r.at_ } r
/-- the blocks of a call of answer -/
structure AnsW (w wx : World) (cb : Nat) (a : MAcc) (c : MComp) (r : MReq) : Prop where
  comp : CompA wx cb a c
  lt : cb < w.heap.size
  box : wx.heap[w.heap.size]? = some (.cells #[.int .i64 r.at_, .int .i64 r.serv, .int .i64 r.val] 80 (0, 0))
  res : wx.heap[w.heap.size + 1]? = some (.cells #[.int .i64 0, .int .i64 0] 76 (0, 0))
  gb : w.grownBy wx (some cb)
  size : w.heap.size + 2 ≤ wx.heap.size
section
variable {w wx wy : World} {cb : Nat} {a : MAcc} {c c' : MComp} {r : MReq}
theorem AnsW.put (h : AnsW w wx cb a c r) (k : Nat) (v : Value) (he : (compCells a c).setIfInBounds k v = compCells a c') : AnsW w (wx.setCell ⟨cb, k, none⟩ v) cb a c' r :=
  ⟨h.comp.put k v he, h.lt, (Below.heap_setCell wx ⟨cb, k, none⟩ v _ (by have := h.lt; show w.heap.size ≠ cb; omega)).trans h.box, (Below.heap_setCell wx ⟨cb, k, none⟩ v _ (by have := h.lt; show w.heap.size + 1 ≠ cb; omega)).trans h.res, gb_put h.gb k v, by simpa using h.size⟩
theorem AnsW.drew (h : AnsW w wx cb a c r) (n : Nat) : AnsW w (wx.drewN n) cb a c r := ⟨h.comp, h.lt, h.box, h.res, ⟨h.gb.os, h.gb.tape, h.gb.output, h.gb.size, h.gb.block⟩, h.size⟩
theorem AnsW.call (h : AnsW w wx cb a c r) (h2 : CompA wy cb a c') (hg : wx.grownBy wy (some cb)) : AnsW w wy cb a c' r :=
  ⟨h2, h.lt, (hg.block _ (by have := h.size; omega) (fun e => by injection e with e; have := h.lt; omega)).trans h.box, (hg.block _ (by have := h.size; omega) (fun e => by injection e with e; have := h.lt; omega)).trans h.res, gb_trans h.gb hg, Nat.le_trans h.size hg.size⟩
theorem AnsW.b (h : AnsW w wx cb a c r) (k : Nat) : wx.cell? ⟨w.heap.size, k, none⟩ = (#[.int .i64 r.at_, .int .i64 r.serv, .int .i64 r.val] : Array Value)[k]? := cell_of_row wx _ k _ 80 (0, 0) h.box
theorem AnsW.z (h : AnsW w wx cb a c r) (k : Nat) : wx.cell? ⟨w.heap.size + 1, k, none⟩ = (#[.int .i64 0, .int .i64 0] : Array Value)[k]? := cell_of_row wx _ k _ 76 (0, 0) h.res
theorem AnsW.zf (h : AnsW w wx cb a c r) (k : Nat) : wx.frozen? ⟨w.heap.size + 1, k, none⟩ = false := by simp [World.frozen?, h.res]
theorem AnsW.done (h : AnsW w wx cb a c r) (x y : Int) : ((wx.setCell ⟨w.heap.size + 1, 0, none⟩ (.int .i64 x)).setCell ⟨w.heap.size + 1, 1, none⟩ (.int .i64 y)).heap[w.heap.size + 1]? = some (.cells #[.int .i64 x, .int .i64 y] 76 (0, 0)) := by
  rw [heap_setCell_same _ _ 1 _ 76 _ (heap_setCell_same wx _ 0 _ 76 _ h.res)]
  simp
theorem AnsW.fin (h : AnsW w wx cb a c r) (x y : Value) : CompA ((wx.setCell ⟨w.heap.size + 1, 0, none⟩ x).setCell ⟨w.heap.size + 1, 1, none⟩ y) cb a c ∧ w.grownBy ((wx.setCell ⟨w.heap.size + 1, 0, none⟩ x).setCell ⟨w.heap.size + 1, 1, none⟩ y) (some cb) :=
  ⟨(h.comp.far (p := ⟨w.heap.size + 1, 0, none⟩) (by have := h.lt; show cb ≠ w.heap.size + 1; omega) x).far (p := ⟨w.heap.size + 1, 1, none⟩) (by have := h.lt; show cb ≠ w.heap.size + 1; omega) y, gb_set (gb_set h.gb (.inr (Nat.le_succ _)) x) (.inr (Nat.le_succ _)) y⟩
end
theorem rep_under : ∃ f, Tryd.prog.underlying 76 = some (.struct f) := by
  have h : (Tryd.prog.underlying 76).map (fun d => match d with | .struct _ => true | _ => false) = some true := by kernel_rfl
  rcases hu : Tryd.prog.underlying 76 with _ | d
  · rw [hu] at h; cases h
  · rw [hu] at h
    cases d
    case struct f => exact ⟨f, rfl⟩
    all_goals (exfalso; simp at h)
theorem rep_info : (Tryd.prog.info? 76).map (·.size) = some 2 := by kernel_rfl
theorem results_rep {fn : Func} {p : Tmp} (h : fn.results = #[.cell p 76]) (tmps : Array Value) (w : World) (g : Nat) (x y : Value) (hp : tmps.getD p undef = .pointer (some ⟨g, 0, none⟩)) (hg : w.heap[g]? = some (.cells #[x, y] 76 (0, 0))) :
    (results fn tmps).run Tryd.prog w = .ok (.agg #[x, y]) w := by
  obtain ⟨f, hu⟩ := rep_under
  exact results_cell_row h tmps w g 76 _ (0, 0) (.struct f) hp hg hu rfl rep_info
set_option maxRecDepth 100000 in
set_option maxHeartbeats 4000000 in
theorem answer_any (a : MAcc) (c : MComp) (r : MReq) (cb : Nat) (w : World) (h : CompA w cb a c) (ha : accB a = true) (hs : c.seed ≤ 65535) (hw : 0 ≤ c.wrong ∧ c.wrong ≤ 1000000) (hq : 0 ≤ c.seeds ∧ c.seeds ≤ 1000000) (ht : 0 ≤ r.at_ ∧ r.at_ ≤ 1000000) (hl : 0 ≤ c.last ∧ c.last ≤ 1000000) {x : MComp × (Int × Int)} (hx : answerS a c r = x) :
    Calls Tryd.prog 81 #[.pointer (some ⟨cb, 0, none⟩), reqV r] w fun e w' => e = .returned (.agg #[.int .i64 x.2.1, .int .i64 x.2.2]) ∧ CompA w' cb a x.1 ∧ w.grownBy w' (some cb) := by
  unfold reqV
  have hb1 : Below w.heap.size w ((w.alloc (.cells #[.int .i64 r.at_, .int .i64 r.serv, .int .i64 r.val] 80)).alloc (.cells #[.int .i64 0, .int .i64 0] 76)) := ((Below.refl _ _).alloc (Nat.le_refl _) _).alloc (by simp) _
  have hlt := h.lt
  have hA : AnsW w ((w.alloc (.cells #[.int .i64 r.at_, .int .i64 r.serv, .int .i64 r.val] 80)).alloc (.cells #[.int .i64 0, .int .i64 0] 76)) cb a c r := by
    refine ⟨h.below hb1 hlt, hlt, ?_, ?_, gb_below (gb_refl _ _) hb1 (Nat.le_refl _), by simp⟩
    · exact (Below.heap_alloc _ _ _ (by simp)).trans (heap_alloc_new w _)
    · have := heap_alloc_new (w.alloc (.cells #[.int .i64 r.at_, .int .i64 r.serv, .int .i64 r.val] 80)) (.cells #[.int .i64 0, .int .i64 0] 76)
      rwa [show (w.alloc (.cells #[.int .i64 r.at_, .int .i64 r.serv, .int .i64 r.val] 80)).heap.size = w.heap.size + 1 by simp] at this
  have e1 : IntKind.i64.wrap (r.at_ - c.last) = r.at_ - c.last := IntWalk.i64_in _ (by omega)
  obtain ⟨b, hb⟩ : ∃ b, decide (c.ses ≠ 0 ∧ a.idle < r.at_ - c.last) = b := ⟨_, rfl⟩
  have HX := Lib.hid hx
  have HB := Lib.hid hb
  have HA := Lib.hid hA
  have hb0 : ((w.alloc (.cells #[.int .i64 r.at_, .int .i64 r.serv, .int .i64 r.val] 80)).alloc (.cells #[.int .i64 0, .int .i64 0] 76)).cell? ⟨w.heap.size, 0, none⟩ = some (.int .i64 r.at_) := hA.b 0
  have g3 : ((w.alloc (.cells #[.int .i64 r.at_, .int .i64 r.serv, .int .i64 r.val] 80)).alloc (.cells #[.int .i64 0, .int .i64 0] 76)).cell? ⟨cb, 3, none⟩ = some (.int .i64 a.idle) := hA.comp.g 3
  have g4 : ((w.alloc (.cells #[.int .i64 r.at_, .int .i64 r.serv, .int .i64 r.val] 80)).alloc (.cells #[.int .i64 0, .int .i64 0] 76)).cell? ⟨cb, 4, none⟩ = some (.int .i64 c.ses) := hA.comp.g 4
  have g10 : ((w.alloc (.cells #[.int .i64 r.at_, .int .i64 r.serv, .int .i64 r.val] 80)).alloc (.cells #[.int .i64 0, .int .i64 0] 76)).cell? ⟨cb, 10, none⟩ = some (.int .i64 c.last) := hA.comp.g 10
  clear hx hb hA h hb1
  go_enter Tryd.func81, Tryd.ntmps81
  go_upto_region 1 with fail
  go_cut [24] (fun s24 wx => s24 = .bool b ∧ AnsW w wx cb a c r)
  case first =>
    by_cases h1 : c.ses = 0
    · have k1 : (c.ses != 0) = false := by simpa using h1
      have HB2 : Hid (b = false) := by show b = false; rw [← HB.out]; exact decide_eq_false (fun h => h.1 h1)
      clear h1
      go_quiet (fail)
      go_wp2_with fail
      go_meet
      exact ⟨by rw [HB2.out], HA.out.drew _⟩
    · have k1 : (c.ses != 0) = true := by simpa using h1
      obtain ⟨y, hy⟩ : ∃ y, decide (a.idle < r.at_ - c.last) = y := ⟨_, rfl⟩
      have HB2 : Hid (b = y) := by
        show b = y
        rw [← HB.out, ← hy]
        exact decide_eq_decide.2 ⟨fun h => h.2, fun h => ⟨h1, h⟩⟩
      clear h1
      go_quiet (fail)
      go_wp2_with fail
      go_meet
      exact ⟨by rw [HB2.out], HA.out.drew _⟩
  case rest =>
    obtain ⟨rfl, hA1⟩ := hcut
    clear hb0 g3 g4 g10
    have HA1 := Lib.hid hA1
    have HRS : Hid (Calls Tryd.prog 110 #[.pointer (some ⟨cb, 0, none⟩)] wc fun e w' => e = .returned (.tuple #[]) ∧ CompA w' cb a (resetS c) ∧ wc.grownBy w' (some cb)) := reset_any a c cb wc hA1.comp
    clear hA1
    go_upto_if 24 with fail
    go_cut [26] (fun _ wx => AnsW w wx cb a (lateS a c r) r)
    case first =>
      rcases b
      · have HL : Hid (lateS a c r = c) := by show _ = _; unfold lateS; rw [if_neg (of_decide_eq_false HB.out)]
        go_wp2_with fail
        go_meet
        rw [HL.out]
        exact HA1.out
      · have HL : Hid (lateS a c r = resetS c) := by show _ = _; unfold lateS; rw [if_pos (of_decide_eq_true HB.out)]
        go_wp2_with (go_at_call 110; refine HRS.out.mono ?_; rintro e w2 ⟨rfl, h2, hg2⟩)
        go_meet
        rw [HL.out]
        exact HA1.out.call h2 hg2
    case rest =>
      have HA2 := Lib.hid hcut
      clear HA1 HRS hcut
      generalize hc1 : lateS a c r = c1 at *
      have hc1s : c1.seed ≤ 65535 ∧ c1.seeds = c.seeds ∧ c1.wrong = c.wrong := by
        rw [← hc1]
        unfold lateS resetS
        split
        · exact ⟨(by decide : (-1 : Int) ≤ 65535), rfl, rfl⟩
        · exact ⟨hs, rfl, rfl⟩
      have HC1 := Lib.hid hc1
      clear hc1
      have hA3 := HA2.out.put 10 (.int .i64 r.at_) (c' := { c1 with last := r.at_ }) (by simp [compCells])
      obtain ⟨c2, hc2⟩ : ∃ c2 : MComp, c2 = { c1 with last := r.at_ } := ⟨_, rfl⟩
      rw [← hc2] at hA3
      have hX2 : bodyS a c2 r = x := by rw [← HX.out, hc2, ← HC1.out]; rfl
      have hc2s : c2.seed ≤ 65535 ∧ c2.seeds = c.seeds ∧ c2.wrong = c.wrong := by rw [hc2]; exact hc1s
      have q0 : wc.cell? ⟨w.heap.size, 0, none⟩ = some (.int .i64 r.at_) := HA2.out.b 0
      have q1 : wc.cell? ⟨w.heap.size, 1, none⟩ = some (.int .i64 r.serv) := HA2.out.b 1
      have q10 : wc.cell? ⟨cb, 10, none⟩ = some (.int .i64 c1.last) := HA2.out.comp.g 10
      have qf := HA2.out.comp.fz 10
      have HA3 := Lib.hid hA3
      have HX2 := Lib.hid hX2
      have HC2S := Lib.hid hc2s
      clear hc2 HC1 hc1s HX hX2 hA3 HA hc2s
      go_upto_block 0 with fail
      have hq0 : (wc.setCell ⟨cb, 10, none⟩ (.int .i64 r.at_)).cell? ⟨w.heap.size, 0, none⟩ = some (.int .i64 r.at_) := HA3.out.b 0
      have hq1 : (wc.setCell ⟨cb, 10, none⟩ (.int .i64 r.at_)).cell? ⟨w.heap.size, 1, none⟩ = some (.int .i64 r.serv) := HA3.out.b 1
      have hq2 : (wc.setCell ⟨cb, 10, none⟩ (.int .i64 r.at_)).cell? ⟨w.heap.size, 2, none⟩ = some (.int .i64 r.val) := HA3.out.b 2
      clear HA2 q0 q1 q10 qf
      generalize (wc.setCell ⟨cb, 10, none⟩ (.int .i64 r.at_)) = W at *
      have k4 : W.cell? ⟨cb, 4, none⟩ = some (.int .i64 c2.ses) := HA3.out.comp.g 4
      have k5 : W.cell? ⟨cb, 5, none⟩ = some (.bool c2.unl) := HA3.out.comp.g 5
      have k6 : W.cell? ⟨cb, 6, none⟩ = some (.int .i64 c2.seed) := HA3.out.comp.g 6
      have k7 : W.cell? ⟨cb, 7, none⟩ = some (.int .i64 c2.seeds) := HA3.out.comp.g 7
      have k9 : W.cell? ⟨cb, 9, none⟩ = some (.int .i64 c2.til) := HA3.out.comp.g 9
      have kf6 := HA3.out.comp.fz 6
      have kf7 := HA3.out.comp.fz 7
      have z0 : W.cell? ⟨w.heap.size + 1, 0, none⟩ = some (.int .i64 0) := HA3.out.z 0
      have z1 : W.cell? ⟨w.heap.size + 1, 1, none⟩ = some (.int .i64 0) := HA3.out.z 1
      have y0 := HA3.out.zf 0
      have y1 := HA3.out.zf 1
      have HCH : Hid (Calls Tryd.prog 111 #[.pointer (some ⟨cb, 0, none⟩), .int .i64 r.val] W fun e w' => e = .returned (.int .i64 (changeS c2 r.val).2) ∧ CompA w' cb a (changeS c2 r.val).1 ∧ W.grownBy w' (some cb)) := change_any a c2 r.val cb W HA3.out.comp rfl
      have HTR : Hid (∀ nq : Nat, Calls Tryd.prog 112 #[.pointer (some ⟨cb, 0, none⟩), .agg #[.int .i64 r.at_, .int .i64 r.serv, .int .i64 r.val]] (W.drewN nq) fun e w' => e = .returned (.int .i64 (tryS a c2 r).2) ∧ CompA w' cb a (tryS a c2 r).1 ∧ (W.drewN nq).grownBy w' (some cb)) := fun nq => try_any a c2 r cb (W.drewN nq) (HA3.out.drew nq).comp ha HC2S.out.1 (by rw [HC2S.out.2.2]; exact hw) ht rfl
      have hne1 : cb ≠ w.heap.size + 1 := by omega
      have hne0 : cb ≠ w.heap.size := by omega
      by_cases s1 : r.serv = 1
      · have e0 : x = ((changeS c2 r.val).1, ((changeS c2 r.val).2, 0)) := by rw [← HX2.out]; simp [bodyS, s1]
        subst e0
        have b1 : (r.serv == 1) = true := by simpa using s1
        go_wp2_with (go_at_call 111; refine HCH.out.mono ?_; rintro e w4 ⟨rfl, h4, hg4⟩; have hA4 := HA3.out.call h4 hg4; have u0 : w4.cell? ⟨w.heap.size + 1, 0, none⟩ = some (.int .i64 0) := hA4.z 0; have u1 : w4.cell? ⟨w.heap.size + 1, 1, none⟩ = some (.int .i64 0) := hA4.z 1; have v0 := hA4.zf 0; have v1 := hA4.zf 1)
        (try simp only [Exit.then, Exit.inBlock])
        exact bodyPost_ret (results_rep rfl _ _ (w.heap.size + 1) _ _ rfl (hA4.done _ _)) rfl ⟨rfl, (hA4.fin _ _).1, (hA4.fin _ _).2⟩
      have d1 : (r.serv == 1) = false := by simpa using s1
      have hdone : ∀ {W' : World} {c' : MComp} {X Y : Int}, AnsW w W' cb a c' r → True := fun _ => trivial
      clear hdone
      by_cases s2 : r.serv = 2
      · have b2 : (r.serv == 2) = true := by simpa using s2
        have b3 : (r.serv == 3) = false := by rw [s2]; rfl
        by_cases t0 : c2.ses = 0
        · have e0 : x = (c2, (4, 0)) := by rw [← HX2.out]; simp [bodyS, s2, t0]
          subst e0
          rw [t0] at k4
          clear t0 s1 s2
          go_wp2_with fail
          (try simp only [Exit.then, Exit.inBlock])
          exact bodyPost_ret (results_rep rfl _ _ (w.heap.size + 1) _ _ rfl (HA3.out.done _ _)) rfl ⟨rfl, (HA3.out.fin _ _).1, (HA3.out.fin _ _).2⟩
        · have t0b : (c2.ses == 0) = false := by simpa using t0
          by_cases t1 : r.at_ < c2.til
          · have e0 : x = (c2, (3, 0)) := by rw [← HX2.out]; simp [bodyS, s2, t0, t1]
            subst e0
            have t1b : decide (r.at_ < c2.til) = true := decide_eq_true t1
            clear s1 s2 t1
            go_wp2_with fail
            go_quiet (fail)
            go_wp2_with fail
            (try simp only [Exit.then, Exit.inBlock])
            exact bodyPost_ret (results_rep rfl _ _ (w.heap.size + 1) _ _ rfl ((HA3.out.drew _).done _ _)) rfl ⟨rfl, ((HA3.out.drew _).fin _ _).1, ((HA3.out.drew _).fin _ _).2⟩
          · have e0 : x = ({ c2 with seed := (c2.seeds * 7919 + 13) % 65536, seeds := c2.seeds + 1 }, (0, (c2.seeds * 7919 + 13) % 65536)) := by rw [← HX2.out]; simp [bodyS, s2, t0, t1]
            subst e0
            have t1b : decide (r.at_ < c2.til) = false := decide_eq_false t1
            have hm := Int.emod_nonneg (c2.seeds * 7919 + 13) (show (65536 : Int) ≠ 0 by decide)
            have hm2 := Int.emod_lt_of_pos (c2.seeds * 7919 + 13) (show (0 : Int) < 65536 by decide)
            have w1 : IntKind.i64.wrap (c2.seeds * 7919) = c2.seeds * 7919 := IntWalk.i64_in _ (by rw [HC2S.out.2.1]; omega)
            have w2 : IntKind.i64.wrap (c2.seeds * 7919 + 13) = c2.seeds * 7919 + 13 := IntWalk.i64_in _ (by rw [HC2S.out.2.1]; omega)
            have w3 : (c2.seeds * 7919 + 13).tmod 65536 = (c2.seeds * 7919 + 13) % 65536 := Int.tmod_eq_emod_of_nonneg (by rw [HC2S.out.2.1]; omega)
            have w4 : IntKind.i64.wrap ((c2.seeds * 7919 + 13) % 65536) = (c2.seeds * 7919 + 13) % 65536 := IntWalk.i64_in _ (by omega)
            have w5 : IntKind.i64.wrap (c2.seeds + 1) = c2.seeds + 1 := IntWalk.i64_in _ (by rw [HC2S.out.2.1]; omega)
            clear s1 s2 t1 hm hm2
            go_wp2_with fail
            go_quiet (fail)
            go_wp2_with fail
            (try simp only [Exit.then, Exit.inBlock])
            have hA5 := ((HA3.out.drew nq).put 6 (.int .i64 ((c2.seeds * 7919 + 13) % 65536)) (c' := { c2 with seed := (c2.seeds * 7919 + 13) % 65536 }) (by simp [compCells])).put 7 (.int .i64 (c2.seeds + 1)) (c' := { c2 with seed := (c2.seeds * 7919 + 13) % 65536, seeds := c2.seeds + 1 }) (by simp [compCells])
            exact bodyPost_ret (results_rep rfl _ _ (w.heap.size + 1) _ _ rfl (hA5.done _ _)) rfl ⟨rfl, (hA5.fin _ _).1, (hA5.fin _ _).2⟩
      have d2 : (r.serv == 2) = false := by simpa using s2
      by_cases s3 : r.serv = 3
      · have b3 : (r.serv == 3) = true := by simpa using s3
        by_cases t0 : c2.ses = 0
        · have e0 : x = (c2, (4, 0)) := by rw [← HX2.out]; simp [bodyS, s3, t0]
          subst e0
          rw [t0] at k4
          clear t0 s1 s2 s3
          go_wp2_with fail
          (try simp only [Exit.then, Exit.inBlock])
          exact bodyPost_ret (results_rep rfl _ _ (w.heap.size + 1) _ _ rfl (HA3.out.done _ _)) rfl ⟨rfl, (HA3.out.fin _ _).1, (HA3.out.fin _ _).2⟩
        · have t0b : (c2.ses == 0) = false := by simpa using t0
          by_cases t1 : r.at_ < c2.til
          · have e0 : x = (c2, (3, 0)) := by rw [← HX2.out]; simp [bodyS, s3, t0, t1]
            subst e0
            have t1b : decide (r.at_ < c2.til) = true := decide_eq_true t1
            clear s1 s2 s3 t1
            go_wp2_with fail
            go_quiet (fail)
            go_wp2_with fail
            (try simp only [Exit.then, Exit.inBlock])
            exact bodyPost_ret (results_rep rfl _ _ (w.heap.size + 1) _ _ rfl ((HA3.out.drew _).done _ _)) rfl ⟨rfl, ((HA3.out.drew _).fin _ _).1, ((HA3.out.drew _).fin _ _).2⟩
          · have e0 : x = ((tryS a c2 r).1, ((tryS a c2 r).2, 0)) := by rw [← HX2.out]; simp [bodyS, s3, t0, t1]
            subst e0
            have t1b : decide (r.at_ < c2.til) = false := decide_eq_false t1
            clear s1 s2 s3 t1
            go_wp2_with fail
            go_quiet (fail)
            go_wp2_with (go_at_call 112; refine (HTR.out _).mono ?_; rintro e w4 ⟨rfl, h4, hg4⟩; have hA4 := (HA3.out.drew nq).call h4 hg4; have u0 : w4.cell? ⟨w.heap.size + 1, 0, none⟩ = some (.int .i64 0) := hA4.z 0; have u1 : w4.cell? ⟨w.heap.size + 1, 1, none⟩ = some (.int .i64 0) := hA4.z 1; have v0 := hA4.zf 0; have v1 := hA4.zf 1)
            (try simp only [Exit.then, Exit.inBlock])
            exact bodyPost_ret (results_rep rfl _ _ (w.heap.size + 1) _ _ rfl (hA4.done _ _)) rfl ⟨rfl, (hA4.fin _ _).1, (hA4.fin _ _).2⟩
      have d3 : (r.serv == 3) = false := by simpa using s3
      by_cases s4 : r.serv = 4
      · have b4 : (r.serv == 4) = true := by simpa using s4
        by_cases t0 : c2.ses = 2
        · rw [t0] at k4
          rcases hu : c2.unl
          · have e0 : x = (c2, (1, 0)) := by rw [← HX2.out]; simp [bodyS, s4, t0, hu]
            subst e0
            rw [hu] at k5
            clear t0 s1 s2 s3 s4 hu
            go_wp2_with fail
            (try simp only [Exit.then, Exit.inBlock])
            exact bodyPost_ret (results_rep rfl _ _ (w.heap.size + 1) _ _ rfl (HA3.out.done _ _)) rfl ⟨rfl, (HA3.out.fin _ _).1, (HA3.out.fin _ _).2⟩
          · have e0 : x = (c2, (0, r.val)) := by rw [← HX2.out]; simp [bodyS, s4, t0, hu]
            subst e0
            rw [hu] at k5
            clear t0 s1 s2 s3 s4 hu
            go_wp2_with fail
            (try simp only [Exit.then, Exit.inBlock])
            exact bodyPost_ret (results_rep rfl _ _ (w.heap.size + 1) _ _ rfl (HA3.out.done _ _)) rfl ⟨rfl, (HA3.out.fin _ _).1, (HA3.out.fin _ _).2⟩
        · have e0 : x = (c2, (4, 0)) := by rw [← HX2.out]; simp [bodyS, s4, t0]
          subst e0
          have t0b : (c2.ses != 2) = true := by simpa using t0
          clear s1 s2 s3 s4
          go_wp2_with fail
          (try simp only [Exit.then, Exit.inBlock])
          exact bodyPost_ret (results_rep rfl _ _ (w.heap.size + 1) _ _ rfl (HA3.out.done _ _)) rfl ⟨rfl, (HA3.out.fin _ _).1, (HA3.out.fin _ _).2⟩
      have d4 : (r.serv == 4) = false := by simpa using s4
      by_cases s5 : r.serv = 5
      · have e0 : x = (c2, (0, 0)) := by rw [← HX2.out]; simp [bodyS, s5]
        subst e0
        have b5 : (r.serv == 5) = true := by simpa using s5
        clear s1 s2 s3 s4 s5
        go_wp2_with fail
        (try simp only [Exit.then, Exit.inBlock])
        exact bodyPost_ret (results_rep rfl _ _ (w.heap.size + 1) _ _ rfl (HA3.out.done _ _)) rfl ⟨rfl, (HA3.out.fin _ _).1, (HA3.out.fin _ _).2⟩
      · have d5 : (r.serv == 5) = false := by simpa using s5
        have e0 : x = (c2, (6, 0)) := by rw [← HX2.out]; simp [bodyS, s1, s2, s3, s4, s5]
        subst e0
        clear s1 s2 s3 s4 s5
        go_wp2_with fail
        (try simp only [Exit.then, Exit.inBlock])
        exact bodyPost_ret (results_rep rfl _ _ (w.heap.size + 1) _ _ rfl (HA3.out.done _ _)) rfl ⟨rfl, (HA3.out.fin _ _).1, (HA3.out.fin _ _).2⟩
end Go.Proofs.YtonpemikodajdaaDoor
