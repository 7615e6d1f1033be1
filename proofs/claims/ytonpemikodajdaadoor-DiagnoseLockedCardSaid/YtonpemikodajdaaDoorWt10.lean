/- Walk: calm, where no code is, or an active one. -/
import Derived.Test.YtonpemikodajdaaDoorWt7
import Derived.Test.YtonpemikodajdaaDoorWt9
namespace Go.Proofs.YtonpemikodajdaaDoor
open Go.RowKit

set_option maxRecDepth 100000 in
set_option maxHeartbeats 2000000 in
theorem calm_zero {w : World} {B wb : Nat} {A : Option Addr} {lc : Nat} {l : List MMon} {tick : Int} {cb : Nat} {ns : List Int} {kb : Nat} {cs : List Int} {V : Value} {K : List (MCode × Value)}
    (hS : WS w B wb A lc l tick cb ns kb cs V K) (hl : l.length ≤ 20) (hcs : cs.length = l.length) (hK : K.length ≤ 1000000) (hasc : AscC (K.map Prod.fst)) (i : Nat) (hi : i < l.length)
    (ix : Nat) (has : Bool) (hf : FindP (K.map Prod.fst) i ix has) (ha : has = false ∨ ((K.map Prod.fst).getD ix dCode).active = true) :
    Calls Tryd.prog 91 #[.pointer (some ⟨wb, 0, none⟩), .int .i64 i] w fun e w' => e = .returned (.tuple #[]) ∧ WS w' B wb A lc l tick cb ns kb (cs.set i 0) V K ∧ Below B w w' := by
  obtain ⟨Av, cap, rfl, hcap⟩ := hS.row.lenV
  have hC := find_at Av cap (K.map Prod.fst) i w (RowC.codes hS.row hS.frames hK) hasc (by omega) hf
  rw [List.length_map] at hC
  have HC := Lib.hid hC
  have hb0 : ∀ w', Below w.heap.size w w' → WS w' B wb A lc l tick cb ns kb cs (.slice Av K.length cap) K := fun w' hb => hS.below hb (Nat.le_refl _)
  have HB := Lib.hid hb0
  have hBw := Nat.le_of_lt (Nat.lt_of_le_of_lt hS.bw hS.lt)
  have hbk := hS.bk
  have g4 := hS.g 4
  simp at g4
  have HF := Lib.hid hf
  have HK := Lib.hid hK
  have HA := Lib.hid ha
  have HCS := Lib.hid hcs
  clear hC hb0 hf hK ha hcs hasc hS
  rcases has with _ | _
  · go_enter Tryd.func91, Tryd.ntmps91
    go_wp2_with (go_at_call 106; refine HC.out.mono ?_; rintro e w1 ⟨rfl, hb1⟩; have HS1 := HB.out _ hb1; have g3 := HS1.g 3; simp at g3; have k0 := HS1.clm.cell hi; have k1 := HS1.clm.frozen i)
    all_goals ((try simp only [Exit.then, Exit.inBlock, ↓reduceIte]); refine bodyPost_ret (results_none rfl _ _ _) rfl ⟨rfl, HS1.setClm HCS.out hi 0, (hb1.mono hBw).setCell hbk _⟩)
  · have hix : ix < K.length := by have := (HF.out.2.2.2.1 rfl).1; simpa using this
    have hact : ((K.map Prod.fst).getD ix dCode).active = true := by
      rcases HA.out with h | h
      · cases h
      · exact h
    have HAC := Lib.hid hact
    clear hact
    go_enter Tryd.func91, Tryd.ntmps91
    go_wp2_with (go_at_call 106; refine HC.out.mono ?_; rintro e w1 ⟨rfl, hb1⟩; have HS1 := HB.out _ hb1; have g3 := HS1.g 3; simp at g3; have g41 := HS1.g 4; simp at g41; have k0 := HS1.clm.cell hi; have k1 := HS1.clm.frozen i; obtain ⟨f, b, off, Ap, cp, hg, rfl, hlt, _, _, _, _, _, c5, _, _⟩ := (RowC.codes HS1.row HS1.frames HK.out).at_ (show ix < (K.map Prod.fst).length by simpa using hix); rw [show f.active = true from hg ▸ HAC.out] at c5)
    all_goals ((try simp only [Exit.then, Exit.inBlock, ↓reduceIte]); refine bodyPost_ret (results_none rfl _ _ _) rfl ⟨rfl, HS1.setClm HCS.out hi 0, (hb1.mono hBw).setCell hbk _⟩)
end Go.Proofs.YtonpemikodajdaaDoor
