/- Walks: diagnose.Guide. -/
import Derived.Test.YtonpemikodajdaaDoorGd4
import Derived.Test.YtonpemikodajdaaDoorGw
import Derived.Test.YtonpemikodajdaaDoorCs3
import Derived.Deep.RegionHeld3
namespace Go.Proofs.YtonpemikodajdaaDoor
open Go.RowKit

set_option maxRecDepth 100000 in
theorem everyone_any (A1 A2 : Option Addr) (c1 c2 : Nat) (c : MCase) (w : World) (hn : c.weights.length ≤ 12) {q : Nat} (hq : fullS c = q) :
    Calls Tryd.prog 58 #[.agg #[.slice A1 c.weights.length c1, .slice A2 c.tests.length c2]] w fun e w' => e = .returned (.int .u64 q) ∧ Below w.heap.size w w' := by
  have hc : ((2 : Int) ^ c.weights.length) = ((2 ^ c.weights.length : Nat) : Int) := by simp
  have h12 : 2 ^ c.weights.length ≤ 2 ^ 12 := Nat.pow_le_pow_right (by omega) hn
  have hp : 0 < 2 ^ c.weights.length := Nat.two_pow_pos _
  unfold fullS at hq
  generalize (2 ^ c.weights.length : Nat) = r at *
  have e1 : IntKind.u64.wrap ((2 : Int) ^ c.weights.length) = (r : Int) := by rw [hc]; exact IntWalk.u64_in _ (by omega)
  have e2 : IntKind.u64.wrap ((r : Int) - 1) = (q : Int) := by rw [IntWalk.u64_in _ (by omega)]; omega
  clear hc hq
  go_enter Tryd.func58, Tryd.ntmps58
  go_wp2_with fail
  go_ret
  exact ⟨rfl, (Below.refl _ _).alloc (Nat.le_refl _) _⟩
theorem init_GS {w w1 : World} {A1 A2 : Option Addr} {c1 c2 : Nat} {c : MCase} (h : CaseA w w.heap.size A1 A2 c) (hT : TabW w) (hb : Below w.heap.size w w1) :
    GS ((w1.alloc (.map #[] 0)).alloc (.cells #[.slice A1 c.weights.length c1, .slice A2 c.tests.length c2, .map (some w1.heap.size), .slice none 0 0] 94)) w.heap.size (w1.heap.size + 1) w1.heap.size (w1.heap.size + 2) A1 c1 A2 c2 c (fun _ => False) (.slice none 0 0) [] := by
  have hs := hb.size
  have hb2 : Below w.heap.size w ((w1.alloc (.map #[] 0)).alloc (.cells #[.slice A1 c.weights.length c1, .slice A2 c.tests.length c2, .map (some w1.heap.size), .slice none 0 0] 94)) := (hb.alloc hs _).alloc (by simp; omega) _
  have ho := own_new (w1.alloc (.map #[] 0)) #[.slice A1 c.weights.length c1, .slice A2 c.tests.length c2, .map (some w1.heap.size), .slice none 0 0] 94 (n := 4) (f := gpF A1 c1 A2 c2 c w1.heap.size (.slice none 0 0)) (by simp) (fun j hj => by
    rcases (show j = 0 ∨ j = 1 ∨ j = 2 ∨ j = 3 by omega) with rfl | rfl | rfl | rfl <;> rfl)
  exact ⟨by simpa using ho, hT.keep hb2, h.keep hb2, hT.1, hs, by omega, by omega, by omega, by omega, by simp, (KnM.made w1 c).alloc _, OutK.nil _ _ _, fun k hk => (by cases hk), fun b hb' => hb'.elim⟩
theorem OutK.base {w : World} {b0 b1 : Nat} {U0 : Nat → Prop} {v : Value} {F : List MFork} (h : OutK w b0 U0 v F) (hb : b1 ≤ b0) : OutK w b1 U0 v F := by
  obtain ⟨pv, h1, h2⟩ := h
  exact ⟨pv, own_base h1 hb, h2⟩
/-- what Guide answers -/
def GuidePost (w : World) (c : MCase) (e : Ending) (w' : World) : Prop :=
  Below w.heap.size w w' ∧ ((caseB c = false ∧ e = .returned (.tuple #[.slice none 0 0, .int .i64 0, .int .i64 101])) ∨
    (caseB c = true ∧ ∃ v, e = .returned (.tuple #[v, .int .i64 (bestS c (fullS c)).2, .int .i64 0]) ∧ OutK w' w.heap.size (fun _ => True) v (growS c (fullS c) 0)))
set_option maxRecDepth 100000 in
set_option maxHeartbeats 4000000 in
theorem guide_any (A1 A2 : Option Addr) (c1 c2 : Nat) (c : MCase) (w : World) (h : CaseA w w.heap.size A1 A2 c) (hT : TabW w) :
    Calls Tryd.prog 20 #[.agg #[.slice A1 c.weights.length c1, .slice A2 c.tests.length c2]] w (GuidePost w c) := by
  have hb0 : Below w.heap.size w (w.alloc (.cells #[.slice A1 c.weights.length c1, .slice A2 c.tests.length c2] 36)) := (Below.refl _ _).alloc (Nat.le_refl _) _
  have n0 := newcell w #[.slice A1 c.weights.length c1, .slice A2 c.tests.length c2] 36 0
  have n1 := newcell w #[.slice A1 c.weights.length c1, .slice A2 c.tests.length c2] 36 1
  simp only [List.getElem?_toArray, List.getElem?_cons_succ, List.getElem?_cons_zero] at n0 n1
  have hsz0 : (w.alloc (.cells #[.slice A1 c.weights.length c1, .slice A2 c.tests.length c2] 36)).heap.size = w.heap.size + 1 := by simp
  rcases hv : caseB c
  · have HC := Lib.hid (check_any A1 A2 c1 c2 c _ ((h.keep hb0).more hb0.size) (checkC_no hv))
    have HV := Lib.hid hv
    clear hv
    go_enter Tryd.func20, Tryd.ntmps20
    go_wp2_with (go_at_call 27; refine HC.out.mono ?_; rintro e w1 ⟨rfl, hb1⟩)
    go_ret3
    exact ⟨hb0.trans (hb1.mono hb0.size), .inl ⟨HV.out, rfl⟩⟩
  · have HC := Lib.hid (check_any A1 A2 c1 c2 c _ ((h.keep hb0).more hb0.size) (checkC_yes hv))
    have hok := caseOk hv
    have hn12 := hok.n2
    have HV := Lib.hid hv
    have HCA := Lib.hid h
    have HT := Lib.hid hT
    have hfl := fullS_lt c
    have HFL := Lib.hid hfl
    obtain ⟨q, hq⟩ : ∃ q, fullS c = q := ⟨_, rfl⟩
    have HQ := Lib.hid hq
    clear hv h hok hfl hq
    have hmm := @run_makeMap Tryd.prog
    go_enter Tryd.func20, Tryd.ntmps20
    go_upto_region 6 with (first | (go_at_call 27; refine HC.out.mono ?_; rintro e w1 ⟨rfl, hb1⟩; have m0 := (bcell hb1 w.heap.size 0 (by omega)).trans n0; have m1 := (bcell hb1 w.heap.size 1 (by omega)).trans n1; have hbw1 := hb0.trans (hb1.mono hb0.size); have hs1 := hb1.size; have hG3 := init_GS (c1 := c1) (c2 := c2) HCA.out HT.out hbw1; rw [hsz0] at hs1; have k0 := (acell (w1.alloc (.map #[] 0)) (.cells #[.slice A1 c.weights.length c1, .slice A2 c.tests.length c2, .map (some w1.heap.size), .slice none 0 0] 94) w.heap.size 0 (by simp; omega)).trans ((acell w1 (.map #[] 0) w.heap.size 0 (by omega)).trans m0); have k1 := (acell (w1.alloc (.map #[] 0)) (.cells #[.slice A1 c.weights.length c1, .slice A2 c.tests.length c2, .map (some w1.heap.size), .slice none 0 0] 94) w.heap.size 1 (by simp; omega)).trans ((acell w1 (.map #[] 0) w.heap.size 1 (by omega)).trans m1)) | (go_at_call 58; refine (everyone_any A1 A2 c1 c2 c _ hn12 HQ.out).mono ?_; rintro e w5 ⟨rfl, hb5⟩; have hG5 := hG3.below hb5 (Nat.le_refl _)) | (go_at_call 57; refine (grow_any _ _ _ _ _ _ _ _ c HV.out q (by rw [← HQ.out]; exact HFL.out) _ _ _ _ hG5 (by simpa using growS_cap (two12 (by rw [← HQ.out]; exact HFL.out) hn12) 0)).mono ?_; rintro e w6 ⟨rfl, v6, hG6, hR6, hN6⟩))
    have hs3 : ((w1.alloc (.map #[] 0)).alloc (.cells #[.slice A1 c.weights.length c1, .slice A2 c.tests.length c2, .map (some w1.heap.size), .slice none 0 0] 94)).heap.size = w1.heap.size + 2 := by simp
    have hs5 := hb5.size
    rw [hs3] at hs5
    have r0 := (World.cell?_of_block (a := ⟨w.heap.size, 0, none⟩) (hR6.block w.heap.size (by omega) (by omega) (by omega) (fun e => by cases e))).trans ((bcell hb5 w.heap.size 0 (by omega)).trans k0)
    have r1 := (World.cell?_of_block (a := ⟨w.heap.size, 1, none⟩) (hR6.block w.heap.size (by omega) (by omega) (by omega) (fun e => by cases e))).trans ((bcell hb5 w.heap.size 1 (by omega)).trans k1)
    have r3 := hG6.g3
    have hGd := hG6.below (Below.refl w6.heap.size w6).drew (Nat.le_refl _)
    have hB6 : Below w.heap.size w w6 := ((hbw1.alloc (by omega) _).alloc (by simp; omega) _).trans ((hb5.mono (by simp; omega)).trans (hR6.below (by omega) (by omega) (by omega) (fun k hk => by cases hk)))
    have hs6 := hR6.size
    have j1 := fd1 (.int .i64 (bestS c q).1) (.int .i64 (bestS c q).2)
    have HRR := Lib.hid hR6
    have HMN : Hid (∀ (w7 : World) (hG : GS w7 w.heap.size (w1.heap.size + 1) w1.heap.size (w1.heap.size + 2) A1 c1 A2 c2 c (fun _ => False) v6 ([] ++ growS c q ([] : List MFork).length)), Calls Tryd.prog 59 #[.pointer (some ⟨w1.heap.size + 1, 0, none⟩), .int .u64 q] w7 (BestPost w7 w1.heap.size c q)) := fun w7 hG => best_any _ _ _ _ _ _ _ c HV.out hG.hm hG.ne q (by rw [← HQ.out]; exact HFL.out) w7 hG.ge hG.g2 hG.kn
    clear m0 m1 n0 n1 k0 k1 hG3 hG5 hb1 hb0 hmm hR6 hN6
    go_region_held3 (fun w' => w'.cell? ⟨w.heap.size, 0, none⟩ = some (.slice A1 c.weights.length c1) ∧ w'.cell? ⟨w.heap.size, 1, none⟩ = some (.slice A2 c.tests.length c2) ∧ w'.cell? ⟨w1.heap.size + 1, 3, none⟩ = some v6) (first | exact d80 | exact d81 | exact d83 | exact d70 | exact d71 | exact d73 | go_keep) ((first | (go_at_call 58; refine (everyone_any A1 A2 c1 c2 c _ hn12 HQ.out).mono ?_; rintro e w7 ⟨rfl, hb7⟩; have hG7 := hGd.below hb7 (Nat.le_refl _); have d70 := (bcell hb7 w.heap.size 0 (by simp; omega)).trans r0; have d71 := (bcell hb7 w.heap.size 1 (by simp; omega)).trans r1; have d73 := hG7.g3) | (go_at_call 59; refine (HMN.out _ hG7).mono ?_; rintro e w8 ⟨rfl, hk8, hg8⟩; have hG8 := hG7.grown hg8 hk8; have d80 := hg8.cell d70 (fun e => by injection e with e; simp at e; omega); have d81 := hg8.cell d71 (fun e => by injection e with e; simp at e; omega); have d83 := hG8.g3)))
    have hs7 := hb7.size
    simp at hs7
    have hB8 : Below w.heap.size w w8 := (hB6.trans ((Below.refl w.heap.size w6).drew.trans (hb7.mono (by simp; omega)))).grown hg8 (by omega) (fun k hk => by injection hk with hk; omega)
    go_wp2_with fail
    go_ret3
    exact ⟨hB8, .inr ⟨HV.out, v6, by rw [HQ.out]; rfl, by rw [HQ.out]; exact (hG8.out.base (by omega)).reU (fun _ _ _ => trivial)⟩⟩
end Go.Proofs.YtonpemikodajdaaDoor
