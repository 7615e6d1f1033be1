/- Walk: the reference's Talk. -/
import Derived.Test.YtonpemikodajdaaDoorAc5
import Derived.Test.YtonpemikodajdaaDoorAc6
import Derived.Deep.RegionLaw
import Derived.Deep.RegionHeld3
import Derived.Deep.DeepCutAuto
namespace Go.Proofs.YtonpemikodajdaaDoor
open Go.RowKit

def rlateS (a : MAcc) (c : RComp) (r : MReq) (prev : Int) : RComp := if c.ses ≠ 0 ∧ a.idle < r.at_ - prev then { c with ses := 0, opn := false, wts := false } else c
def rstepS (a : MAcc) (c : RComp) (r : MReq) (prev : Int) : RComp × (Int × Int) := replyS a (rlateS a c r prev) r
def rcomp0 : RComp := ⟨0, false, false, 0, 0, 0, 0⟩
def rcompAt (a : MAcc) (l : List MReq) : Nat → RComp
  | 0 => rcomp0
  | k + 1 => (rstepS a (rcompAt a l k) (l.getD k dReq) (lastAt l k)).1
def rrepS (a : MAcc) (l : List MReq) (k : Nat) : Int × Int := (rstepS a (rcompAt a l k) (l.getD k dReq) (lastAt l k)).2
def rrunS (a : MAcc) (l : List MReq) (k : Nat) : List (Int × Int) := (List.range k).map (rrepS a l)
theorem rrunS_len (a : MAcc) (l : List MReq) (k : Nat) : (rrunS a l k).length = k := by simp [rrunS]
theorem rrunS_succ (a : MAcc) (l : List MReq) (k : Nat) : rrunS a l (k + 1) = rrunS a l k ++ [rrepS a l k] := by simp [rrunS, List.range_succ]
structure RCompOk (N : Int) (c : RComp) : Prop where
  seed : 0 ≤ c.seed ∧ c.seed ≤ 65535
  wrong : 0 ≤ c.wrong ∧ c.wrong ≤ N
  seeds : 0 ≤ c.seeds ∧ c.seeds ≤ N
theorem RCompOk.late {N : Int} {a : MAcc} {c : RComp} {r : MReq} {p : Int} (h : RCompOk N c) : RCompOk N (rlateS a c r p) := by
  unfold rlateS
  split
  · exact ⟨h.seed, h.wrong, h.seeds⟩
  · exact h
theorem RCompOk.step {N : Int} {a : MAcc} {c : RComp} {r : MReq} {p : Int} (h : RCompOk N c) (hN : 0 ≤ N) : RCompOk (N + 1) (rstepS a c r p).1 := by
  have hl : RCompOk N (rlateS a c r p) := h.late
  unfold rstepS
  generalize rlateS a c r p = d at *
  have up : RCompOk (N + 1) d := ⟨hl.seed, by have := hl.wrong; omega, by have := hl.seeds; omega⟩
  have hm := Int.emod_lt_of_pos (d.seeds * 7919 + 13) (show (0 : Int) < 65536 by decide)
  have hm0 := Int.emod_nonneg (d.seeds * 7919 + 13) (show (65536 : Int) ≠ 0 by decide)
  have hw := hl.wrong
  have hs := hl.seeds
  have up0 : 0 ≤ (0 : Int) ∧ (0 : Int) ≤ N + 1 := by omega
  have up1 : 0 ≤ d.wrong + 1 ∧ d.wrong + 1 ≤ N + 1 := by omega
  have up2 : 0 ≤ d.seeds + 1 ∧ d.seeds + 1 ≤ N + 1 := by omega
  have up3 : 0 ≤ (d.seeds * 7919 + 13) % 65536 ∧ (d.seeds * 7919 + 13) % 65536 ≤ 65535 := by omega
  unfold replyS
  repeat' split
  all_goals first | exact up | exact ⟨up.seed, up.wrong, up.seeds⟩ | exact ⟨up3, up.wrong, up2⟩ | exact ⟨up.seed, up0, up.seeds⟩ | exact ⟨up.seed, up1, up.seeds⟩
theorem rcompAt_ok (a : MAcc) (l : List MReq) : ∀ k : Nat, RCompOk k (rcompAt a l k)
  | 0 => ⟨⟨Int.le_refl 0, (by decide : (0 : Int) ≤ 65535)⟩, ⟨Int.le_refl 0, Int.le_refl 0⟩, ⟨Int.le_refl 0, Int.le_refl 0⟩⟩
  | k + 1 => by
    have h := (rcompAt_ok a l k).step (a := a) (r := l.getD k dReq) (p := lastAt l k) (by omega)
    show RCompOk ((k + 1 : Nat) : Int) _
    push_cast
    exact h
theorem rcompAt_ses0 (a : MAcc) (l : List MReq) : (rcompAt a l 0).ses = 0 := rfl
theorem step_app_rep {ops : Array Oper} {o : Oper} {a : Act} {K : Act → World → Prop} {Q : Exit → Act → World → Prop} {E : Prop} (w : World) (hg : o.guard = none) (s x : Operand) (ho : o.op = .call { callee := .builtin .append, args := #[s, x], argTypes := #[72, 72] }) (base : Nat) (v : Value) (l : List (Int × Int))
    (hs : a.eval s = v) (hown : OutR w base v l) (nb : Nat) (hx : a.eval x = .slice (some ⟨nb, 0, none⟩) 1 1) (p : Int × Int) (hc0 : w.cell? ⟨nb, 0, none⟩ = some (.int .i64 p.1)) (hc1 : w.cell? ⟨nb, 1, none⟩ = some (.int .i64 p.2)) (hlen : l.length ≤ 1000000) (hbase : base ≤ w.heap.size)
    (hK : ∀ v' w', OutR w' base v' (l ++ [p]) → w.grownBy w' v.ownBlock → K (a.put o.dst v') w') :
    if Region.wanted o (yielded ops a.tmps) = true then Oper.wp Tryd.prog o a w K Q else E := by
  rw [if_pos (by simp [Region.wanted, hg])]
  obtain ⟨i0, hi, hz0, hz1, hz2⟩ := info_parts info_rep
  refine wp_append_own w s x 72 ho base 76 i0 _ 2 16 under_reps hi hz0 hz1 hz2 rfl (by decide) v l.length _ hs hown ⟨nb, 0, none⟩ 1 1 (cells2 p) hx rfl ?_ ?_ (by unfold maxLen; omega) (by omega) hbase (fun v' w' h1 h2 _ => hK v' w' ?_ h2)
  · intro j u hj
    rw [add_none0, Nat.zero_add]
    match j, hj with
    | 0, hj => exact hc0.trans hj
    | 1, hj => exact hc1.trans hj
    | j + 2, hj => cases hj
  · intro u hu
    unfold cells2 at hu
    simp only [List.mem_cons, List.not_mem_nil, or_false] at hu
    rcases hu with rfl | rfl <;> rfl
  · unfold OutR
    rw [List.flatMap_append, List.length_append]
    simpa using h1
theorem lastAt_bounds {l : List MReq} (ht : ∀ (k : Nat) (r : MReq), l[k]? = some r → 0 ≤ r.at_ ∧ r.at_ ≤ 1000000) (k : Nat) (hk : k ≤ l.length) : 0 ≤ lastAt l k ∧ lastAt l k ≤ 1000000 := by
  cases k with
  | zero => exact ⟨Int.le_refl 0, (by decide : (0 : Int) ≤ 1000000)⟩
  | succ j =>
    have hr : l[j]? = some l[j] := List.getElem?_eq_getElem (by omega)
    show 0 ≤ (l.getD j dReq).at_ ∧ (l.getD j dReq).at_ ≤ 1000000
    rw [List.getD_eq_getElem?_getD, hr]
    exact ht j _ hr
/-- the loop's world -/
structure RL (w wk wx : World) (cb : Nat) (c : RComp) (v : Value) (out : List (Int × Int)) : Prop where
  comp : RCompA wx cb c
  out : OutR wx (cb + 1) v out
  bw : Below w.heap.size w wx
  bk : Below (w.heap.size + 1) wk wx
theorem RL.drew {w wk wx : World} {cb : Nat} {c : RComp} {v : Value} {out : List (Int × Int)} (h : RL w wk wx cb c v out) (n : Nat) : RL w wk (wx.drewN n) cb c v out :=
  ⟨h.comp, h.out.keep fun _ _ _ => rfl, ⟨h.bw.os, h.bw.tape, h.bw.output, h.bw.size, h.bw.block⟩, ⟨h.bk.os, h.bk.tape, h.bk.output, h.bk.size, h.bk.block⟩⟩
theorem RL.put {w wk wx : World} {cb : Nat} {c c' : RComp} {v : Value} {out : List (Int × Int)} (h : RL w wk wx cb c v out) (hcb : w.heap.size < cb) (k : Nat) (u : Value) (he : (rcCells c).setIfInBounds k u = rcCells c') : RL w wk (wx.setCell ⟨cb, k, none⟩ u) cb c' v out :=
  ⟨h.comp.put k u he, h.out.keep fun g hg _ => Below.heap_setCell wx ⟨cb, k, none⟩ u g (by show g ≠ cb; omega), h.bw.setCell (p := ⟨cb, k, none⟩) (by show w.heap.size ≤ cb; omega) u, h.bk.setCell (p := ⟨cb, k, none⟩) (by show w.heap.size + 1 ≤ cb; omega) u⟩
set_option maxRecDepth 100000 in
set_option maxHeartbeats 8000000 in
theorem rtalk_any (a : MAcc) (A : Option Addr) (lc : Nat) (l : List MReq) (w : World) (h : ReqsA w w.heap.size A l) :
    Calls Tryd.prog 46 #[accV a, .slice A l.length lc] w (TalkPost w a l (rrunS a l l.length)) := by
  unfold accV
  have hlen := h.1
  unfold maxLen at hlen
  have hb1 : Below w.heap.size w (w.alloc (.cells #[.int .i64 a.secret, .int .i64 a.tries, .int .i64 a.lock, .int .i64 a.idle] 70)) := (Below.refl _ _).alloc (Nat.le_refl _) _
  have hsz : (w.alloc (.cells #[.int .i64 a.secret, .int .i64 a.tries, .int .i64 a.lock, .int .i64 a.idle] 70)).heap.size = w.heap.size + 1 := by simp
  have n0 := newcell w #[.int .i64 a.secret, .int .i64 a.tries, .int .i64 a.lock, .int .i64 a.idle] 70 0
  have n1 := newcell w #[.int .i64 a.secret, .int .i64 a.tries, .int .i64 a.lock, .int .i64 a.idle] 70 1
  have n2 := newcell w #[.int .i64 a.secret, .int .i64 a.tries, .int .i64 a.lock, .int .i64 a.idle] 70 2
  have n3 := newcell w #[.int .i64 a.secret, .int .i64 a.tries, .int .i64 a.lock, .int .i64 a.idle] 70 3
  simp only [List.getElem?_toArray, List.getElem?_cons_succ, List.getElem?_cons_zero] at n0 n1 n2 n3
  rcases hb : accB a
  · have HC := Lib.hid (rcheckacc_any a (w.alloc (.cells #[.int .i64 a.secret, .int .i64 a.tries, .int .i64 a.lock, .int .i64 a.idle] 70)) (show checkA a = 103 by unfold checkA; rw [hb]; rfl))
    have HR : Hid (talkE a l = 103) := by show _ = _; unfold talkE; rw [hb]; rfl
    clear hb
    go_enter Tryd.func46, Tryd.ntmps46
    go_wp2_with (go_at_call 82; refine HC.out.mono ?_; rintro e w2 ⟨rfl, hb2⟩)
    go_ret2
    exact talk_end (hb1.trans (hb2.mono (by omega))) HR.out (by decide)
  · have HC := Lib.hid (rcheckacc_any a (w.alloc (.cells #[.int .i64 a.secret, .int .i64 a.tries, .int .i64 a.lock, .int .i64 a.idle] 70)) (show checkA a = 0 by unfold checkA; rw [hb]; rfl))
    have HACC := Lib.hid hb
    clear hb
    by_cases hm : l.length > 200
    · have HR : Hid (talkE a l = 2) := by show _ = _; unfold talkE; rw [if_pos HACC.out, if_pos hm]
      go_enter Tryd.func46, Tryd.ntmps46
      go_wp2_with (go_at_call 82; refine HC.out.mono ?_; rintro e w2 ⟨rfl, hb2⟩)
      go_ret2
      exact talk_end (hb1.trans (hb2.mono (by omega))) HR.out (by decide)
    · have hl200 : l.length ≤ 200 := by omega
      have hwE : Hid (talkE a l = if timesG 0 l = true then 0 else 1) := by show _ = _; unfold talkE; rw [if_pos HACC.out, if_neg hm]
      clear hm
      go_enter Tryd.func46, Tryd.ntmps46
      go_wp2_with (go_at_call 82; refine HC.out.mono ?_; rintro e w2 ⟨rfl, hb2⟩; have m0 := (bcell hb2 w.heap.size 0 (by omega)).trans n0; have m1 := (bcell hb2 w.heap.size 1 (by omega)).trans n1; have m2 := (bcell hb2 w.heap.size 2 (by omega)).trans n2; have m3 := (bcell hb2 w.heap.size 3 (by omega)).trans n3; have hbw2 := hb1.trans (hb2.mono (by omega)); have hs2 := hb2.size)
      rw [hsz] at hs2
      clear n0 n1 n2 n3
      go_loopw [8, 7, 4, 5] (fun vi vt v4 v5 wr => ∃ k : Nat, k ≤ l.length ∧ vi = .int .i64 k ∧ vt = .int .i64 (lastAt l k) ∧ v4 = .slice none 0 0 ∧ v5 = .int .i64 0 ∧ Hid (timesG 0 l = timesG (lastAt l k) (l.drop k)) ∧ Below (w.heap.size + 1) w2 wr) (fun vi _ _ _ _ => l.length - (intOf vi).toNat)
      case atStart => exact ⟨0, Nat.zero_le _, rfl, rfl, rfl, rfl, rfl, Below.refl _ _⟩
      case round =>
        obtain ⟨k, hk, rfl, rfl, rfl, rfl, HT, hbr⟩ := hrel
        have hbw : Below w.heap.size w wr := hbw2.trans (hbr.mono (by omega))
        by_cases hlt : k < l.length
        · obtain ⟨r, b, off, ht, rfl, hblt, t0, t1, t2⟩ := (h.keep hbw).at_ hlt
          have hst := timesG_step ht
          have HT2 : Hid (timesG 0 l = (inB r.at_ (lastAt l k) 1000000 && timesG (lastAt l (k + 1)) (l.drop (k + 1)))) := by show _ = _; rw [HT.out, hst.1]
          have HLA := Lib.hid hst.2
          clear hst ht
          generalize hla : lastAt l k = la at *
          have HL1 := Lib.hid hla
          clear hla
          rcases hin : inB r.at_ la 1000000
          · have HIN := Lib.hid hin
            have HR : Hid (talkE a l = 1) := by show _ = _; rw [hwE.out, HT2.out, hin]; rfl
            clear hin
            go_wp2_with (go_at_call 63; refine (rwithin_b _ _ _ _ _ HIN.out).mono ?_; rintro e w3 ⟨rfl, rfl⟩)
            go_ret2
            exact talk_end hbw HR.out (by decide)
          · have HIN := Lib.hid hin
            have HT3 : Hid (timesG 0 l = timesG (lastAt l (k + 1)) (l.drop (k + 1))) := by show _ = _; rw [HT2.out, hin]; rfl
            clear hin
            go_wp2_with (go_at_call 63; refine (rwithin_b _ _ _ _ _ HIN.out).mono ?_; rintro e w3 ⟨rfl, rfl⟩)
            go_roundw
            case rel => exact ⟨k + 1, by omega, by go_num, by rw [HLA.out], rfl, rfl, HT3, hbr⟩
            case measure => simp [intOf]; omega
        · obtain rfl : k = l.length := by omega
          have hT : timesG 0 l = true := by rw [HT.out, List.drop_length]; rfl
          have HR : Hid (talkE a l = 0) := by show _ = _; rw [hwE.out, if_pos hT]
          have HTA := Lib.hid (timesG_all l 0 (Int.le_refl 0) hT)
          clear HT hT
          have hsr := hbr.size
          obtain ⟨wk, rfl⟩ : ∃ wk : World, wk = wr := ⟨_, rfl⟩
          have hp : ∀ j u, wk.cell? ⟨w.heap.size, j, none⟩ = some u → (wk.alloc (.cells #[.int .i64 0, .bool false, .bool false, .int .i64 0, .int .i64 0, .int .i64 0, .int .i64 0] 132)).cell? ⟨w.heap.size, j, none⟩ = some u := fun j u hu => (acell wk _ _ _ (by omega)).trans hu
          have hacc : ∀ wx : World, Below (w.heap.size + 1) wk wx → wx.heap[w.heap.size]? = some (.cells #[.int .i64 a.secret, .int .i64 a.tries, .int .i64 a.lock, .int .i64 a.idle] 70 (0, 0)) := fun wx hb => (hb.block _ (by omega)).trans ((hbr.block _ (by omega)).trans ((hb2.block _ (by omega)).trans (heap_alloc_new w _)))
          have HACB := Lib.hid hacc
          have hcomp : RCompA (wk.alloc (.cells #[.int .i64 0, .bool false, .bool false, .int .i64 0, .int .i64 0, .int .i64 0, .int .i64 0] 132)) wk.heap.size (rcompAt a l 0) := heap_alloc_new wk _
          have HCP := Lib.hid hcomp
          have HBW : Hid (Below w.heap.size w (wk.alloc (.cells #[.int .i64 0, .bool false, .bool false, .int .i64 0, .int .i64 0, .int .i64 0, .int .i64 0] 132))) := hbw.alloc (by omega) _
          have HBK : Hid (Below (w.heap.size + 1) wk (wk.alloc (.cells #[.int .i64 0, .bool false, .bool false, .int .i64 0, .int .i64 0, .int .i64 0, .int .i64 0] 132))) := (Below.refl _ _).alloc (by omega) _
          have hwk : w.heap.size < wk.heap.size := by omega
          clear hcomp hbr hbw2 hb2 hp hacc m0 m1 m2 m3
          go_wp2_with fail
          go_loopw [11, 10] (fun vi v4 wr => ∃ k : Nat, k ≤ l.length ∧ vi = .int .i64 k ∧ Hid (RCompA wr wk.heap.size (rcompAt a l k)) ∧ Hid (OutR wr (wk.heap.size + 1) v4 (rrunS a l k)) ∧ Hid (Below w.heap.size w wr) ∧ Hid (Below (w.heap.size + 1) wk wr)) (fun vi _ _ => l.length - (intOf vi).toNat)
          case atStart => exact ⟨0, Nat.zero_le _, rfl, HCP, OutR.nil _ _, HBW, HBK⟩
          case round =>
            obtain ⟨k, hk, rfl, HCO, HO, HB, HBK2⟩ := hrel
            by_cases hlt2 : k < l.length
            · obtain ⟨r, b, off, ht, rfl, hblt, t0, t1, t2⟩ := (h.keep HB.out).at_ hlt2
              have hrb := HTA.out k r ht
              have hck := rcompAt_ok a l k
              have hgd : l.getD k dReq = r := by rw [List.getD_eq_getElem?_getD, ht]; rfl
              have hkn : rcompAt a l (k + 1) = (rstepS a (rcompAt a l k) r (lastAt l k)).1 := by show (rstepS a (rcompAt a l k) (l.getD k dReq) (lastAt l k)).1 = _; rw [hgd]
              have htk : rrunS a l (k + 1) = rrunS a l k ++ [(rstepS a (rcompAt a l k) r (lastAt l k)).2] := by rw [rrunS_succ]; unfold rrepS; rw [hgd]
              have hlo : (rrunS a l k).length ≤ 1000000 := by rw [rrunS_len]; omega
              have hs0 : (rcompAt a l k).ses ≠ 0 → ∃ j, k = j + 1 := fun hh => by
                cases k with
                | zero => exact absurd rfl hh
                | succ j => exact ⟨j, rfl⟩
              have hprev : ∀ j, k = j + 1 → wr.cell? ⟨b, off + j * 3, none⟩ = some (.int .i64 (lastAt l k)) := fun j hj => by
                obtain ⟨r', b', off', ht', hA', _, u0, _, _⟩ := (h.keep HB.out).at_ (show j < l.length by omega)
                injection hA' with hA'
                injection hA' with e1 e2
                subst e1; subst e2
                rw [hj]
                show wr.cell? ⟨b, off + j * 3, none⟩ = some (Value.int .i64 (l.getD j dReq).at_)
                rw [List.getD_eq_getElem?_getD, ht']
                exact u0
              have hla := lastAt_bounds HTA.out k hk
              have hRL : RL w wk wr wk.heap.size (rcompAt a l k) u10 (rrunS a l k) := ⟨HCO.out, HO.out, HB.out, HBK2.out⟩
              have hSS : ∀ wx, Below (w.heap.size + 1) wk wx → (wx.cell? ⟨w.heap.size, 0, none⟩ = some (.int .i64 a.secret) ∧ wx.cell? ⟨w.heap.size, 1, none⟩ = some (.int .i64 a.tries) ∧ wx.cell? ⟨w.heap.size, 2, none⟩ = some (.int .i64 a.lock) ∧ wx.cell? ⟨w.heap.size, 3, none⟩ = some (.int .i64 a.idle)) ∧ (wx.cell? ⟨b, off + k * 3, none⟩ = some (.int .i64 r.at_) ∧ wx.cell? ⟨b, off + k * 3 + 1, none⟩ = some (.int .i64 r.serv) ∧ wx.cell? ⟨b, off + k * 3 + 2, none⟩ = some (.int .i64 r.val)) := fun wx hb => by
                have hh := HACB.out wx hb
                have q := fun j => (bcell hb b j (by omega)).trans (bcell HBK2.out b j (by omega)).symm
                exact ⟨⟨cell_of_row wx _ 0 _ 70 (0, 0) hh, cell_of_row wx _ 1 _ 70 (0, 0) hh, cell_of_row wx _ 2 _ 70 (0, 0) hh, cell_of_row wx _ 3 _ 70 (0, 0) hh⟩, (q _).trans t0, (q _).trans t1, (q _).trans t2⟩
              generalize rcompAt a l k = c at *
              generalize lastAt l k = la at *
              generalize rrunS a l k = out at *
              have g0 : wr.cell? ⟨wk.heap.size, 0, none⟩ = some (.int .i64 c.ses) := hRL.comp.g 0
              have i3 := (hSS wr hRL.bk).1.2.2.2
              have HSS := Lib.hid hSS
              have HRL := Lib.hid hRL
              have HTK := Lib.hid htk
              have HKN := Lib.hid hkn
              have HCK := Lib.hid hck
              have HHP := Lib.hid hprev
              have HGD := Lib.hid hgd
              obtain ⟨bb, hbb⟩ : ∃ x, decide (c.ses ≠ 0 ∧ a.idle < r.at_ - la) = x := ⟨_, rfl⟩
              have HBB := Lib.hid hbb
              clear hSS hRL htk hkn hck hprev hgd hbb HCO HO HB HBK2 ht
              go_upto_region 18 with fail
              go_cut [68] (fun s68 wx => s68 = .bool bb ∧ RL w wk wx wk.heap.size c u10 out)
              case first =>
                by_cases h1 : c.ses = 0
                · have k1 : (c.ses != 0) = false := by simpa using h1
                  have HB2 : Hid (bb = false) := by show bb = false; rw [← HBB.out]; exact decide_eq_false (fun h => h.1 h1)
                  clear h1 hs0
                  go_quiet (fail)
                  go_wp2_with fail
                  go_meet
                  exact ⟨by rw [HB2.out], HRL.out.drew _⟩
                · obtain ⟨j, hj⟩ := hs0 h1
                  have hpv := HHP.out j hj
                  have k1 : (c.ses != 0) = true := by simpa using h1
                  have e1 : IntKind.i64.wrap ((k : Int) - 1) = (j : Int) := by rw [IntWalk.i64_in _ (by omega)]; omega
                  have e2 : IntKind.i64.wrap (r.at_ - la) = r.at_ - la := IntWalk.i64_in _ (by omega)
                  have hjl : j < l.length := by omega
                  obtain ⟨y, hy⟩ : ∃ y, decide (a.idle < r.at_ - la) = y := ⟨_, rfl⟩
                  have HB2 : Hid (bb = y) := by
                    show bb = y
                    rw [← HBB.out, ← hy]
                    exact decide_eq_decide.2 ⟨fun h => h.2, fun h => ⟨h1, h⟩⟩
                  clear h1 hs0 hj
                  go_quiet (fail)
                  go_wp2_with fail
                  go_meet
                  exact ⟨by rw [HB2.out], HRL.out.drew _⟩
              case rest =>
                obtain ⟨rfl, hR1⟩ := hcut
                clear g0 i3 hs0
                have HR1 := Lib.hid hR1
                clear hR1 HRL
                go_upto_if 68 with fail
                go_cut [77] (fun _ wx => RL w wk wx wk.heap.size (rlateS a c r la) u10 out)
                case first =>
                  rcases bb
                  · have HL : Hid (rlateS a c r la = c) := by show _ = _; unfold rlateS; rw [if_neg (of_decide_eq_false HBB.out)]
                    go_wp2_with fail
                    go_meet
                    rw [HL.out]
                    exact HR1.out
                  · have HL : Hid (rlateS a c r la = { c with ses := 0, opn := false, wts := false }) := by show _ = _; unfold rlateS; rw [if_pos (of_decide_eq_true HBB.out)]
                    have k0 : wc.cell? ⟨wk.heap.size, 0, none⟩ = some (.int .i64 c.ses) := HR1.out.comp.g 0
                    have k1 : wc.cell? ⟨wk.heap.size, 1, none⟩ = some (.bool c.opn) := HR1.out.comp.g 1
                    have k2 : wc.cell? ⟨wk.heap.size, 2, none⟩ = some (.bool c.wts) := HR1.out.comp.g 2
                    have y0 := HR1.out.comp.fz 0
                    have y1 := HR1.out.comp.fz 1
                    have y2 := HR1.out.comp.fz 2
                    go_wp2_with fail
                    go_meet
                    rw [HL.out]
                    exact ((HR1.out.put hwk 0 (.int .i64 0) (c' := { c with ses := 0 }) (by simp [rcCells])).put hwk 1 (.bool false) (c' := { c with ses := 0, opn := false }) (by simp [rcCells])).put hwk 2 (.bool false) (c' := { c with ses := 0, opn := false, wts := false }) (by simp [rcCells])
                case rest =>
                  clear HR1
                  have hck1 : RCompOk k (rlateS a c r la) := HCK.out.late
                  obtain ⟨x, hx⟩ : ∃ x, replyS a (rlateS a c r la) r = x := ⟨_, rfl⟩
                  have HKX : Hid (rcompAt a l (k + 1) = x.1) := by show _ = _; rw [HKN.out]; unfold rstepS; rw [hx]
                  have HTX : Hid (rrunS a l (k + 1) = out ++ [x.2]) := by show _ = _; rw [HTK.out]; unfold rstepS; rw [hx]
                  have hR2 := hcut
                  clear hcut HKN HTK
                  generalize rlateS a c r la = c1 at *
                  have hR3 : RL w wk wc.drew wk.heap.size c1 u10 out := hR2.drew 1
                  have HRP : Hid (Calls Tryd.prog 83 #[.pointer (some ⟨wk.heap.size, 0, none⟩), .agg #[.int .i64 a.secret, .int .i64 a.tries, .int .i64 a.lock, .int .i64 a.idle], .agg #[.int .i64 r.at_, .int .i64 r.serv, .int .i64 r.val]] wc.drew fun e w' => e = .returned (.agg #[.int .i64 x.2.1, .int .i64 x.2.2]) ∧ RCompA w' wk.heap.size x.1 ∧ wc.drew.grownBy w' (some wk.heap.size)) := reply_any a c1 r wk.heap.size wc.drew hR3.comp HACC.out hck1.seed (by have := hck1.wrong; omega) (by have := hck1.seeds; omega) hrb hx
                  have HR3 := Lib.hid hR3
                  have HS3 := Lib.hid (HSS.out wc.drew hR3.bk)
                  clear hR2 hR3 hx hck1
                  go_upto_region 22 with fail
                  go_region_held3 (fun wx => (wx.cell? ⟨w.heap.size, 0, none⟩ = some (.int .i64 a.secret) ∧ wx.cell? ⟨w.heap.size, 1, none⟩ = some (.int .i64 a.tries) ∧ wx.cell? ⟨w.heap.size, 2, none⟩ = some (.int .i64 a.lock) ∧ wx.cell? ⟨w.heap.size, 3, none⟩ = some (.int .i64 a.idle)) ∧ (wx.cell? ⟨b, off + k * 3, none⟩ = some (.int .i64 r.at_) ∧ wx.cell? ⟨b, off + k * 3 + 1, none⟩ = some (.int .i64 r.serv) ∧ wx.cell? ⟨b, off + k * 3 + 2, none⟩ = some (.int .i64 r.val))) (first | exact HS3.out | exact HS5.out | exact HS6.out | exact HS7.out | assumption) ((first | (go_at_call 83; refine HRP.out.mono ?_; rintro e w5 ⟨rfl, h5, hg5⟩; have hbk5 : Below (w.heap.size + 1) wk w5 := HR3.out.bk.grown hg5 (by have := HR3.out.bk.size; omega) (fun k hk => by injection hk with hk; omega); have HR6 : Hid (RL w wk (w5.alloc (.cells #[.int .i64 x.2.1, .int .i64 x.2.2] 76)) wk.heap.size x.1 u10 out) := ⟨RCompA.below h5 ((Below.refl w5.heap.size w5).alloc (Nat.le_refl _) _) h5.lt, (HR3.out.out.keep (fun g hg hlt => hg5.block g hlt (fun e => by injection e with e; omega))).keep (fun g _ hg => Below.heap_alloc w5 _ g hg), (HR3.out.bw.grown hg5 (by have := HR3.out.bw.size; omega) (fun k hk => by injection hk with hk; omega)).alloc (by have := hbk5.size; omega) _, hbk5.alloc (by have := hbk5.size; omega) _⟩; have HS5 := Lib.hid (HSS.out w5 hbk5); have HS6 := Lib.hid (HSS.out _ HR6.out.bk); have HQ0 := Lib.hid (newcell w5 #[.int .i64 x.2.1, .int .i64 x.2.2] 76 0); have HQ1 := Lib.hid (newcell w5 #[.int .i64 x.2.1, .int .i64 x.2.2] 76 1); clear hg5 hbk5) | (refine step_app_rep _ (by rfl) _ _ (by rfl) (wk.heap.size + 1) u10 out (by rfl) HR6.out.out w5.heap.size (by rfl) x.2 HQ0.out HQ1.out hlo (by have := h5.lt; simp; omega) ?_; intro v7 w7 hO7 hg7; have hvl := own_block_lt HR6.out.out; have HR7 : Hid (RL w wk w7 wk.heap.size x.1 v7 (out ++ [x.2])) := ⟨(hg7.block wk.heap.size HR6.out.comp.lt (fun e => by have := (hvl _ e.symm).1; omega)).trans HR6.out.comp, hO7, HR6.out.bw.grown hg7 (by have := h5.lt; simp; omega) (fun k hk => by have := (hvl k hk).1; omega), HR6.out.bk.grown hg7 (by have := h5.lt; simp; omega) (fun k hk => by have := (hvl k hk).1; omega)⟩; have HS7 := Lib.hid (HSS.out _ HR7.out.bk); clear hO7 hg7 hvl)))
                  go_wp2_with fail
                  go_roundw
                  case rel => exact ⟨k + 1, by omega, by go_num, by rw [HKX.out]; exact HR7.out.comp, by rw [HTX.out]; exact HR7.out.out, HR7.out.bw, HR7.out.bk⟩
                  case measure => simp [intOf]; omega
            · obtain rfl : k = l.length := by omega
              go_wp2_with fail
              go_ret2
              refine ⟨HB.out, u10, by rw [HR.out]; rfl, ?_⟩
              rw [if_pos HR.out]
              exact HO.out.base (by omega)
end Go.Proofs.YtonpemikodajdaaDoor
