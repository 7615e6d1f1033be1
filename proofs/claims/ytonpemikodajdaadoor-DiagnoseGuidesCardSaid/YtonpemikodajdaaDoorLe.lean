/- Walk: the reference's least. -/
import Derived.Test.YtonpemikodajdaaDoorMk
import Derived.Test.YtonpemikodajdaaDoorGw
namespace Go.Proofs.YtonpemikodajdaaDoor
open Go.RowKit

/-- the new world differs in two maps and in what is new -/
structure Gm (w w' : World) (m1 m2 : Nat) : Prop where
  os : w'.os = w.os
  tape : w'.tape = w.tape
  output : w'.output = w.output
  size : w.heap.size ≤ w'.heap.size
  block : ∀ k, k < w.heap.size → k ≠ m1 → k ≠ m2 → w'.heap[k]? = w.heap[k]?
theorem Gm.refl (w : World) (m1 m2 : Nat) : Gm w w m1 m2 := ⟨rfl, rfl, rfl, Nat.le_refl _, fun _ _ _ _ => rfl⟩
theorem Gm.trans {w w' w'' : World} {m1 m2 : Nat} (h : Gm w w' m1 m2) (h' : Gm w' w'' m1 m2) : Gm w w'' m1 m2 :=
  ⟨h'.os.trans h.os, h'.tape.trans h.tape, h'.output.trans h.output, Nat.le_trans h.size h'.size, fun k hk a b => (h'.block k (Nat.lt_of_lt_of_le hk h.size) a b).trans (h.block k hk a b)⟩
theorem Gm.of_below {w w' : World} {m1 m2 : Nat} (h : Below w.heap.size w w') : Gm w w' m1 m2 := ⟨h.os, h.tape, h.output, h.size, fun k hk _ _ => h.block k hk⟩
theorem Gm.of_one {w w' : World} {m1 m2 : Nat} (h : w.grownBy w' (some m1)) : Gm w w' m1 m2 := ⟨h.os, h.tape, h.output, h.size, fun k hk a _ => h.block k hk (fun e => a (by injection e))⟩
theorem Gm.of_two {w w' : World} {m1 m2 : Nat} (h : w.grownBy w' (some m2)) : Gm w w' m1 m2 := ⟨h.os, h.tape, h.output, h.size, fun k hk _ b => h.block k hk (fun e => b (by injection e))⟩
theorem Gm.below {w w' : World} {m1 m2 B : Nat} (h : Gm w w' m1 m2) (hB : B ≤ w.heap.size) (h1 : B ≤ m1) (h2 : B ≤ m2) : Below B w w' := ⟨h.os, h.tape, h.output, h.size, fun k hk => h.block k (by omega) (by omega) (by omega)⟩
theorem IntsU.gm {w w' : World} {m1 m2 : Nat} {A : Option Addr} {l : List Int} (h : IntsU w (fun b => b ≠ m1 ∧ b ≠ m2) A l) (hg : Gm w w' m1 m2) : IntsU w' (fun b => b ≠ m1 ∧ b ≠ m2) A l := h.keep hg.size (fun b hb hu => hg.block b hb hu.1 hu.2) (fun _ _ hu => hu)
/-- the search: its box, its two maps -/
structure WE (w : World) (B0 gp m1 m2 : Nat) (A1 : Option Addr) (c1 : Nat) (A2 : Option Addr) (c2 : Nat) (c : MCase) (p : Nat → Prop) : Prop where
  lt : gp < w.heap.size
  g0 : w.cell? ⟨gp, 0, none⟩ = some (.slice A1 c.weights.length c1)
  g1 : w.cell? ⟨gp, 1, none⟩ = some (.slice A2 c.tests.length c2)
  g2 : w.cell? ⟨gp, 2, none⟩ = some (.map (some m1))
  g3 : w.cell? ⟨gp, 3, none⟩ = some (.map (some m2))
  ca : CaseA w B0 A1 A2 c
  k1 : KnI w m1 (fun k => (bestS c k).2) p
  k2 : KnI w m2 (fun k => (bestS c k).1) p
  le : B0 ≤ gp
  l1 : B0 ≤ m1
  l2 : B0 ≤ m2
  n1 : gp ≠ m1
  n2 : gp ≠ m2
  n3 : m1 ≠ m2
section
variable {w w' : World} {B0 gp m1 m2 : Nat} {A1 : Option Addr} {c1 : Nat} {A2 : Option Addr} {c2 : Nat} {c : MCase} {p : Nat → Prop}
theorem WE.below (h : WE w B0 gp m1 m2 A1 c1 A2 c2 c p) (hb : Below w.heap.size w w') : WE w' B0 gp m1 m2 A1 c1 A2 c2 c p := by
  have h1 := h.lt
  have h2 := h.k1.lt
  have h3 := h.k2.lt
  exact ⟨Nat.lt_of_lt_of_le h1 hb.size, (bcell hb _ _ h1).trans h.g0, (bcell hb _ _ h1).trans h.g1, (bcell hb _ _ h1).trans h.g2, (bcell hb _ _ h1).trans h.g3, h.ca.keep (hb.mono (by have := h.le; omega)), h.k1.below hb h2, h.k2.below hb h3, h.le, h.l1, h.l2, h.n1, h.n2, h.n3⟩
theorem WE.of (h : WE w B0 gp m1 m2 A1 c1 A2 c2 c p) (hg : Gm w w' m1 m2) {p' : Nat → Prop} (k1 : KnI w' m1 (fun k => (bestS c k).2) p') (k2 : KnI w' m2 (fun k => (bestS c k).1) p') : WE w' B0 gp m1 m2 A1 c1 A2 c2 c p' := by
  have h1 := h.lt
  have hc : ∀ j, w'.cell? ⟨gp, j, none⟩ = w.cell? ⟨gp, j, none⟩ := fun j => World.cell?_of_block (a := ⟨gp, j, none⟩) (hg.block gp h1 h.n1 h.n2)
  exact ⟨Nat.lt_of_lt_of_le h1 hg.size, (hc 0).trans h.g0, (hc 1).trans h.g1, (hc 2).trans h.g2, (hc 3).trans h.g3, h.ca.keep (hg.below (by have := h.le; omega) h.l1 h.l2), k1, k2, h.le, h.l1, h.l2, h.n1, h.n2, h.n3⟩
end
def LeastPost (w : World) (B0 gp m1 m2 : Nat) (A1 : Option Addr) (c1 : Nat) (A2 : Option Addr) (c2 : Nat) (c : MCase) (p : Nat → Prop) (s : Nat) (e : Ending) (w' : World) : Prop :=
  e = .returned (.int .i64 (bestS c s).2) ∧ ∃ p' : Nat → Prop, (∀ k, p k → p' k) ∧ (alikeB c s (-1) = false → p' s) ∧ WE w' B0 gp m1 m2 A1 c1 A2 c2 c p' ∧ Gm w w' m1 m2
theorem row_at' {w : World} {base pg cap : Nat} {outs : List Int} {s o : Nat} (h : OutRR w base (.slice (some ⟨pg, 0, none⟩) 4 cap) (partsI outs s)) (ho : o < 4) : ∃ Ap cp, w.cell? ⟨pg, o, none⟩ = some (.slice Ap (bitsI (partS outs s o)).length cp) ∧ (bitsI (partS outs s o)).length ≤ cp ∧ IntsU w (fun b => base ≤ b ∧ b < w.heap.size) Ap (bitsI (partS outs s o)) := by
  obtain ⟨g, cap, vi, hv, _, _, hc, _, hI, _, _⟩ := h.at_ (i := o) (by rw [partsI_len]; exact ho)
  injection hv with hA _ _
  injection hA with hA
  injection hA with hA
  subst hA
  rw [partsI_at ho] at hI
  have hlt := own_block_lt hI
  obtain ⟨A, cp, rfl, hl, _⟩ := hI.reads
  exact ⟨A, cp, hc, hl, hI.intsU rfl fun g hg hb2 => ⟨hb2, (hlt g (by rw [hg]; rfl)).2⟩⟩
set_option maxRecDepth 100000 in
set_option maxHeartbeats 16000000 in
theorem least_step (B0 gp m1 m2 : Nat) (A1 : Option Addr) (c1 : Nat) (A2 : Option Addr) (c2 : Nat) (c : MCase) (hc : caseB c = true) (s : Nat) (hs : s < 2 ^ c.weights.length)
    (ih : ∀ t, t < s → ∀ (w : World) (As : Option Addr) (cs : Nat) (p : Nat → Prop), WE w B0 gp m1 m2 A1 c1 A2 c2 c p → IntsU w (fun b => b ≠ m1 ∧ b ≠ m2) As (bitsI t) → Calls Tryd.prog 62 #[.pointer (some ⟨gp, 0, none⟩), .slice As (bitsI t).length cs] w (LeastPost w B0 gp m1 m2 A1 c1 A2 c2 c p t))
    (w : World) (As : Option Addr) (cs : Nat) (p : Nat → Prop) (h : WE w B0 gp m1 m2 A1 c1 A2 c2 c p) (hI : IntsU w (fun b => b ≠ m1 ∧ b ≠ m2) As (bitsI s)) : Calls Tryd.prog 62 #[.pointer (some ⟨gp, 0, none⟩), .slice As (bitsI s).length cs] w (LeastPost w B0 gp m1 m2 A1 c1 A2 c2 c p s) := by
  have hok := caseOk hc
  have hs12 := pow12 hok.n2 hs
  have hm12 := hok.t
  have hn12 := hok.n2
  have hll := bitsI_len s
  have hgl := h.lt
  have HOK := Lib.hid hok
  have HC := Lib.hid hc
  have HSS := Lib.hid hs
  have HIH := Lib.hid ih
  have HWE := Lib.hid h
  have HIS := Lib.hid hI
  have hrd : ∀ wx : World, Gm w wx m1 m2 → IntsA wx wx.heap.size As (bitsI s) := fun wx hg => (hI.gm hg).ints (by unfold maxLen; omega)
  have HRD := Lib.hid hrd
  obtain ⟨g0, g1, g2, g3⟩ := And.intro h.g0 (And.intro h.g1 (And.intro h.g2 h.g3))
  obtain ⟨al, hal⟩ : ∃ al, alikeB c s (-1) = al := ⟨_, rfl⟩
  have H96 : Hid (Calls Tryd.prog 96 #[.agg #[.slice A1 c.weights.length c1, .slice A2 c.tests.length c2], .slice As (bitsI s).length cs] w fun e w' => e = .returned (.bool al) ∧ Below w.heap.size w w') := rsame_any A1 A2 c1 c2 c As cs s w (h.ca.more (by have := h.le; omega)) hc hs (hrd w (Gm.refl _ _ _)) hal
  have HAL := Lib.hid hal
  clear hok hs hc ih h hI hrd hal
  rcases al with _ | _
  rotate_left
  · have HB0 : Hid ((bestS c s).2 = 0) := by show _ = _; rw [best_leaf hs12 HAL.out]
    go_enter Tryd.func62, Tryd.ntmps62
    go_wp2_with (go_at_call 96; (with_reducible refine H96.out.mono ?_); rintro e w2 ⟨rfl, hb2⟩; have HB2 := Lib.hid hb2; clear hb2)
    go_ret
    exact ⟨ret_i HB0.out.symm, p, fun _ h => h, fun h => (by rw [HAL.out] at h; cases h), HWE.out.below HB2.out, Gm.of_below HB2.out⟩
  · have HMK : Hid (∀ wx, Gm w wx m1 m2 → Calls Tryd.prog 97 #[.slice As (bitsI s).length cs] wx fun e w' => e = .returned (.int .i64 s) ∧ wx = w') := fun wx hg => mask_any As cs s wx hs12 (HRD.out wx hg) rfl
    go_enter Tryd.func62, Tryd.ntmps62
    go_wp2_with (first
      | (go_at_call 96; (with_reducible refine H96.out.mono ?_); rintro e w2 ⟨rfl, hb2⟩; have HB2 := Lib.hid hb2; have HW2 := Lib.hid (HWE.out.below HB2.out); have y2 := HW2.out.g2; clear hb2)
      | (go_at_call 97; (with_reducible refine (HMK.out _ (Gm.of_below HB2.out)).mono ?_); rintro e w3 ⟨rfl, rfl⟩)
      | (at_lookup; refine look_ok _ rfl _ _ rfl m1 _ p rfl HW2.out.k1 s hs12 rfl ?_; intro n is hip hin; have HIP := Lib.hid hip; have HIN := Lib.hid hin; clear hip hin))
    · go_ret
      exact ⟨ret_i (HIN.out ‹_›), p, fun _ h => h, fun _ => HIP.out.1 ‹_›, HW2.out, Gm.of_below HB2.out⟩
    · have his : is = false := by first | assumption | simpa using ‹¬ is = true›
      subst his
      clear g0 g1 g2 g3 y2 H96 HMK HIP HIN
      have hs2 := HB2.out.size
      have HLL := Lib.hid (bitsI_length s)
      go_loopw [9, 8] (fun vi vn wx => ∃ (k : Nat) (n : Int), k ≤ (bitsI s).length ∧ vi = .int .i64 k ∧ vn = .int .i64 n ∧ Hid (n = weightL c.weights ((bitsOf s).take k)) ∧ Hid (Below w2.heap.size w2 wx)) (fun vi _ _ => (bitsI s).length - (intOf vi).toNat)
      case atStart => exact ⟨0, 0, Nat.zero_le _, rfl, rfl, rfl, Below.refl _ _⟩
      case round =>
        obtain ⟨k, n, hk, rfl, rfl, HN, HBX⟩ := hrel
        rename World => wx
        have HWX := Lib.hid (HW2.out.below HBX.out)
        have HGX : Hid (Gm w wx m1 m2) := Gm.of_below (HB2.out.trans (HBX.out.mono hs2))
        by_cases hlt : k < (bitsI s).length
        · obtain ⟨i, hi, him, hg⟩ := bitsI_at (s := s) hlt
          have hin := bits_lt HSS.out him
          have hwi := HOK.out.w i hin
          obtain ⟨xb, xo, hA, _, x0⟩ := (HRD.out wx HGX.out).at_ hlt
          subst hA
          rw [hg] at x0
          obtain ⟨ab, ao, hA1, _, a0⟩ := HWX.out.ca.ws.at_ hin
          subst hA1
          have y0 := HWX.out.g0
          obtain ⟨x, hxe⟩ : ∃ x, c.weights.getD i 0 = x := ⟨_, rfl⟩
          rw [hxe] at a0 hwi
          have hbd := weightL_bd HOK.out.w ((bitsOf s).take k) fun j hj => bits_lt HSS.out (List.mem_of_mem_take hj)
          have hlk : ((bitsOf s).take k).length ≤ 12 := by
            have := bitsOf_len s
            rw [List.length_take]
            omega
          rw [← HN.out] at hbd
          have HNX : Hid (n + x = weightL c.weights ((bitsOf s).take (k + 1))) := by
            show _ = _
            rw [weightL_snoc c.weights (bitsOf s) k i hi, ← HN.out, hxe]
          have e1 : IntKind.i64.wrap (n + x) = n + x := IntWalk.i64_in _ (by omega)
          have hini : (i : Int) < c.weights.length := by omega
          clear hi him hg hxe hlk
          go_wp2_with fail
          go_quiet (fail)
          go_wp2_with fail
          go_roundw
          case rel => exact ⟨k + 1, n + x, by omega, by go_num, rfl, HNX.out, below_drewN HBX.out _⟩
          case measure => simp [intOf]; omega
        · obtain rfl : k = (bitsI s).length := by omega
          have hwv : n = weightS c s := by have := HN.out; rw [HLL.out, List.take_length] at this; exact this
          have HWV := Lib.hid hwv
          have HWY := Lib.hid HWX.out
          clear hwv HN HW2 HBX HB2 hs2 HWX
          have HWX := HWY
          clear HWX
          go_wp2_with fail
          go_loopw [12, 10, 11] (fun vt vb va wy => ∃ (t : Nat) (q : Nat → Prop), t ≤ c.tests.length ∧ vt = .int .i64 t ∧ vb = .int .i64 (pickS (bestS c) c s t).2 ∧ va = .int .i64 (pickS (bestS c) c s t).1 ∧ Hid (∀ k, p k → q k) ∧ Hid (WE wy B0 gp m1 m2 A1 c1 A2 c2 c q) ∧ Hid (Gm w wy m1 m2)) (fun vt _ _ _ => c.tests.length - (intOf vt).toNat)
          case atStart => exact ⟨0, p, Nat.zero_le _, rfl, rfl, rfl, fun _ h => h, HWY.out, HGX.out⟩
          case round =>
            clear HWY HGX
            obtain ⟨t, q, ht, rfl, rfl, rfl, HPQ, HWX, HGX⟩ := hrel
            rename World => wy
            have hpk := pickS_cap HOK.out HSS.out ht
            have y0 := HWX.out.g0
            have y1 := HWX.out.g1
            have hgy := HWX.out.lt
            have hm1 := HWX.out.k1.lt
            have hm2 := HWX.out.k2.lt
            by_cases htl : t < c.tests.length
            · obtain ⟨pt, tb, tf, Ap, cp, htp, hA2, htb, m0, _, _, _⟩ := HWX.out.ca.ts.at_ htl
              subst hA2
              have H98 : Hid (Calls Tryd.prog 98 #[.agg #[.slice A1 c.weights.length c1, .slice (some ⟨tb, tf, none⟩) c.tests.length c2], .slice As (bitsI s).length cs, .int .i64 t] wy fun e w' => ∃ g cap, e = .returned (.slice (some ⟨g, 0, none⟩) 4 cap) ∧ OutRR w' wy.heap.size (.slice (some ⟨g, 0, none⟩) 4 cap) (partsI pt.outs s) ∧ Below wy.heap.size wy w') := by
                refine (rsplit_any A1 _ c1 c2 c As cs s t pt wy (HWX.out.ca.more (by have := HWX.out.le; omega)) HOK.out HSS.out (HRD.out wy HGX.out) htp).mono ?_
                rintro e w' ⟨⟨v, he, hO⟩, hb⟩
                obtain ⟨g, cap, _, hv, _⟩ := hO.at_ (i := 0) (by rw [partsI_len]; omega)
                rw [partsI_len] at hv
                subst hv
                exact ⟨g, cap, he, hO, hb⟩
              have hprobe := HOK.out.p t pt htp
              have hgd : c.tests.getD t ⟨0, []⟩ = pt := by rw [List.getD_eq_getElem?_getD, htp]; rfl
              obtain ⟨R, hR⟩ : ∃ R, partsTo pt.outs s 4 = R := ⟨_, rfl⟩
              have HR := Lib.hid hR
              have hcost := hprobe.1
              have HGD := Lib.hid hgd
              have hmw := mulWeight HOK.out hcost HSS.out
              rw [← HWV.out] at hmw
              clear htp hprobe hgd hR
              have H99 : Hid (∀ (wz : World) (g cap : Nat), OutRR wz wy.heap.size (.slice (some ⟨g, 0, none⟩) 4 cap) (partsI pt.outs s) → Calls Tryd.prog 99 #[.slice (some ⟨g, 0, none⟩) 4 cap] wz fun e w' => e = .returned (.int .i64 R) ∧ Below wz.heap.size wz w') := fun wz g cap hO => rparts_any (some ⟨g, 0, none⟩) cap pt.outs s wz (hO.rows (by rw [partsI_len]; unfold maxLen; omega)) HR.out
              have hR4 : R ≤ 4 := by rw [← HR.out]; exact partsTo_le _ _ _
              by_cases hR2 : R < 2
              · have e9 : decide ((R : Int) < 2) = true := decide_eq_true (by omega)
                have HPS : Hid (pickS (bestS c) c s (t + 1) = pickS (bestS c) c s t) := by show _ = _; rw [pickS, if_pos (by rw [HGD.out, HR.out]; exact hR2)]
                clear hR2
                go_wp2_with (first
                  | (go_at_call 98; (with_reducible refine H98.out.mono ?_); rintro e w5 ⟨g5, cap5, rfl, hO5, hb5⟩; have HO5 := Lib.hid hO5; have HB5 := Lib.hid hb5; clear hO5 hb5)
                  | (go_at_call 99; (with_reducible refine (H99.out _ _ _ HO5.out).mono ?_); rintro e w6 ⟨rfl, hb6⟩; have HB6 := Lib.hid (HB5.out.trans (hb6.mono HB5.out.size)); clear hb6))
                go_roundw
                case rel => exact ⟨t + 1, q, by omega, by go_num, by rw [HPS.out], by rw [HPS.out], HPQ.out, HWX.out.below HB6.out, HGX.out.trans (Gm.of_below HB6.out)⟩
                case measure => simp [intOf]; omega
              · have e9 : decide ((R : Int) < 2) = false := decide_eq_false (by omega)
                have HPS : Hid (pickS (bestS c) c s (t + 1) = if (pickS (bestS c) c s t).1 < 0 ∨ costS (bestS c) pt.outs s (n * pt.cost) 4 < (pickS (bestS c) c s t).2 then ((t : Int), costS (bestS c) pt.outs s (n * pt.cost) 4) else pickS (bestS c) c s t) := by
                  show _ = _
                  rw [pickS, HGD.out, HR.out, if_neg hR2, HWV.out, Int.mul_comm]
                have HTW := Lib.hid (fun o => partsTo_two (outs := pt.outs) (s := s) (o := o) (k := 4) (by rw [HR.out]; omega))
                rw [Int.mul_comm] at hmw
                obtain ⟨z, hz⟩ : ∃ z, n * pt.cost = z := ⟨_, rfl⟩
                rw [hz] at HPS hmw
                obtain ⟨cy, hcy⟩ : ∃ y, pt.cost = y := ⟨_, rfl⟩
                rw [hcy] at m0 hz
                have e1 : IntKind.i64.wrap (n * cy) = z := by rw [hz]; exact IntWalk.i64_in _ (by omega)
                have HMC : Hid (∀ wz, Below wy.heap.size wy wz → wz.cell? ⟨tb, tf + t * 2, none⟩ = some (.int .i64 cy) ∧ wz.cell? ⟨gp, 1, none⟩ = some (.slice (some ⟨tb, tf, none⟩) c.tests.length c2)) := fun wz hb => ⟨(bcell hb _ _ (by have := HWX.out.le; omega)).trans m0, (bcell hb _ _ hgy).trans y1⟩
                have hmz := hmw.1
                have hmz2 := hmw.2.1
                clear hR2 hz hcy m0 hmw
                go_wp2_with (first
                  | (go_at_call 98; (with_reducible refine H98.out.mono ?_); rintro e w5 ⟨g5, cap5, rfl, hO5, hb5⟩; have HO5 := Lib.hid hO5; have HB5 := Lib.hid hb5; clear hO5 hb5)
                  | (go_at_call 99; (with_reducible refine (H99.out _ _ _ HO5.out).mono ?_); rintro e w6 ⟨rfl, hb6⟩; have HB6 := Lib.hid (HB5.out.trans (hb6.mono HB5.out.size)); have HO6 : Hid (OutRR w6 wy.heap.size (.slice (some ⟨g5, 0, none⟩) 4 cap5) (partsI pt.outs s)) := HO5.out.keep (fun g _ hg => hb6.block g hg); obtain ⟨u0, u1⟩ := HMC.out _ HB6.out; clear hb6))
                clear u0 u1 e1
                go_loopw [15, 14] (fun vo vn wz => ∃ (o : Nat) (C : Int) (q' : Nat → Prop), o ≤ 4 ∧ vo = .int .i64 o ∧ vn = .int .i64 C ∧ Hid (costS (bestS c) pt.outs s z o = C) ∧ Hid (∀ k, p k → q' k) ∧ Hid (WE wz B0 gp m1 m2 A1 c1 (some ⟨tb, tf, none⟩) c2 c q') ∧ Hid (Gm w6 wz m1 m2)) (fun vo _ _ => 4 - (intOf vo).toNat)
                case atStart => exact ⟨0, z, q, by omega, rfl, rfl, rfl, HPQ.out, HWX.out.below HB6.out, Gm.refl _ _ _⟩
                case round =>
                  obtain ⟨o, C, q', ho4, rfl, rfl, HCC, HPQ', HWZ, HGZ⟩ := hrel
                  rename World => wz
                  have hcb := costS_bd (B := bestS c) (outs := pt.outs) (s := s) (c0 := z) (M := 2929687500000000) (k := o) hmz (by omega) fun o' _ _ => by
                    have := bestS_cap HOK.out (s := partS pt.outs s o') (by have := HSS.out; have := partS_le (outs := pt.outs) (o := o') hs12; omega)
                    exact ⟨this.2.2.1, this.2.2.2⟩
                  rw [HCC.out] at hcb
                  have HGW : Hid (Gm w wz m1 m2) := (HGX.out.trans (Gm.of_below HB6.out)).trans HGZ.out
                  have hsz6 := HB6.out.size
                  by_cases ho : o < 4
                  · have HOZ : Hid (OutRR wz wy.heap.size (.slice (some ⟨g5, 0, none⟩) 4 cap5) (partsI pt.outs s)) := HO6.out.keep fun g hg hg6 => HGZ.out.block g hg6 (by omega) (by omega)
                    obtain ⟨Ar, cr, r0, hcr, hIr⟩ := row_at' HOZ.out ho
                    have hpos := bitsI_pos (partS_lt pt.outs s o)
                    have ho4i : (o : Int) < 4 := by omega
                    by_cases hx : 0 < partS pt.outs s o
                    · obtain ⟨q9, _, hqo, hq2⟩ := HTW.out o
                      have hxs : partS pt.outs s o < s := partS_ne hs12 (fun e => hqo e.symm) hq2
                      have hbb := bestS_cap HOK.out (s := partS pt.outs s o) (by have := HSS.out; omega)
                      have HIX := Lib.hid (HIH.out _ hxs wz Ar cr q' HWZ.out (hIr.keep (Nat.le_refl _) (fun _ _ _ => rfl) (fun b _ hu => ⟨by omega, by omega⟩)))
                      have HCN : Hid (costS (bestS c) pt.outs s z (o + 1) = C + (bestS c (partS pt.outs s o)).2) := by show _ = _; rw [costS, if_pos hx, HCC.out]
                      unfold LeastPost at HIX
                      obtain ⟨v, hv⟩ : ∃ v, (bestS c (partS pt.outs s o)).2 = v := ⟨_, rfl⟩
                      rw [hv] at HIX HCN hbb
                      have e2 : IntKind.i64.wrap (C + v) = C + v := IntWalk.i64_in _ (by omega)
                      obtain ⟨lx, hlxe⟩ : ∃ lx, (bitsI (partS pt.outs s o)).length = lx := ⟨_, rfl⟩
                      have hl0 : 0 < lx := by rw [← hlxe]; exact hpos.2 hx
                      rw [hlxe] at r0 HIX
                      have e7 : decide (0 < (lx : Int)) = true := decide_eq_true (by omega)
                      clear hv hlxe hpos hIr hcr hqo hq2
                      go_wp2_with (go_at_call 62; (with_reducible refine HIX.out.mono ?_); rintro e w7 ⟨rfl, q7, hq7, _, hW7, hG7⟩; have HQ7 := Lib.hid hq7; have HW7 := Lib.hid hW7; have HG7 := Lib.hid hG7; clear hq7 hW7 hG7)
                      go_roundw
                      case rel => exact ⟨o + 1, C + v, q7, by omega, by go_num, rfl, HCN.out, fun k hk => HQ7.out k (HPQ'.out k hk), HW7.out, HGZ.out.trans HG7.out⟩
                      case measure => simp [intOf]; omega
                    · have HCN : Hid (costS (bestS c) pt.outs s z (o + 1) = C) := by show _ = _; rw [costS, if_neg hx, HCC.out]
                      have hl0 : (bitsI (partS pt.outs s o)).length = 0 := by
                        rcases Nat.eq_zero_or_pos (bitsI (partS pt.outs s o)).length with e | e
                        · exact e
                        · exact absurd (hpos.1 e) hx
                      rw [hl0] at r0
                      clear hpos hIr hcr hl0
                      go_wp2_with fail
                      go_roundw
                      case rel => exact ⟨o + 1, C, q', by omega, by go_num, rfl, HCN.out, HPQ'.out, HWZ.out, HGZ.out⟩
                      case measure => simp [intOf]; omega
                  · obtain rfl : o = 4 := by omega
                    rw [HCC.out] at HPS
                    have HPK : Hid (pickS (bestS c) c s (t + 1) = if (pickS (bestS c) c s t).1 < 0 ∨ C < (pickS (bestS c) c s t).2 then ((t : Int), C) else pickS (bestS c) c s t) := HPS.out
                    clear HPS HCC
                    generalize pickS (bestS c) c s t = pk at *
                    by_cases z1 : pk.1 < 0
                    · go_wp2_with fail
                      go_roundw
                      case rel => exact ⟨t + 1, q', by omega, by go_num, by rw [HPK.out, if_pos (Or.inl z1)], by rw [HPK.out, if_pos (Or.inl z1)], HPQ'.out, HWZ.out, HGW.out⟩
                      case measure => simp [intOf]; omega
                    · by_cases z2 : C < pk.2
                      · go_wp2_with fail
                        go_roundw
                        case rel => exact ⟨t + 1, q', by omega, by go_num, by rw [HPK.out, if_pos (Or.inr z2)], by rw [HPK.out, if_pos (Or.inr z2)], HPQ'.out, HWZ.out, HGW.out⟩
                        case measure => simp [intOf]; omega
                      · go_wp2_with fail
                        go_roundw
                        case rel => exact ⟨t + 1, q', by omega, by go_num, by rw [HPK.out, if_neg (by omega)], by rw [HPK.out, if_neg (by omega)], HPQ'.out, HWZ.out, HGW.out⟩
                        case measure => simp [intOf]; omega
            · obtain rfl : t = c.tests.length := by omega
              rw [← bestS_eq c hs12]
              have y2 := HWX.out.g2
              have HB1 := Lib.hid (rfl : (bestS c s).1 = (bestS c s).1)
              go_wp2_with (first
                | (at_mapUpdate; refine put_int _ rfl _ _ _ rfl m1 _ q rfl HWX.out.k1 s hs12 rfl rfl rfl ?_; intro w7 hk7 hg7; have HK7 := Lib.hid hk7; have HG7 := Lib.hid hg7; have y3 := (World.cell?_of_block (a := ⟨gp, 3, none⟩) (hg7.block gp hgy (fun e => HWX.out.n1 (by injection e)))).trans HWX.out.g3; clear hk7 hg7)
                | (at_mapUpdate; refine put_int _ rfl _ _ _ rfl m2 _ q rfl (HWX.out.k2.kept HG7.out (fun e => HWX.out.n3 (by injection e with e; exact e.symm))) s hs12 rfl rfl rfl ?_; intro w8 hk8 hg8; have HK8 := Lib.hid hk8; have HG8 := Lib.hid hg8; clear hk8 hg8))
              go_ret
              have hgm : Gm wy w8 m1 m2 := (Gm.of_one HG7.out).trans (Gm.of_two HG8.out)
              exact ⟨rfl, fun j => j = s ∨ q j, fun k hk => Or.inr (HPQ.out k hk), fun _ => Or.inl rfl, HWX.out.of hgm (HK7.out.kept HG8.out (fun e => HWX.out.n3 (by injection e))) HK8.out, HGX.out.trans hgm⟩
theorem least_any (B0 gp m1 m2 : Nat) (A1 : Option Addr) (c1 : Nat) (A2 : Option Addr) (c2 : Nat) (c : MCase) (hc : caseB c = true) : ∀ (s : Nat), s < 2 ^ c.weights.length → ∀ (w : World) (As : Option Addr) (cs : Nat) (p : Nat → Prop), WE w B0 gp m1 m2 A1 c1 A2 c2 c p → IntsU w (fun b => b ≠ m1 ∧ b ≠ m2) As (bitsI s) →
    Calls Tryd.prog 62 #[.pointer (some ⟨gp, 0, none⟩), .slice As (bitsI s).length cs] w (LeastPost w B0 gp m1 m2 A1 c1 A2 c2 c p s) := by
  intro s
  induction s using Nat.strongRecOn with
  | ind s ih => exact fun hs w As cs p h hI => least_step B0 gp m1 m2 A1 c1 A2 c2 c hc s hs (fun t ht => ih t ht (by omega)) w As cs p h hI
end Go.Proofs.YtonpemikodajdaaDoor
