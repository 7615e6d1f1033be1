/- Walk: calm, where a code has healed: it is deleted. -/
import Derived.Test.YtonpemikodajdaaDoorWg
import Derived.Test.YtonpemikodajdaaDoorWf
namespace Go.Proofs.YtonpemikodajdaaDoor
open Go.RowKit

theorem WS.erased {w w' : World} {B wb g n cap : Nat} {A : Option Addr} {lc : Caps} {l : List MMon} {tick : Int} {cb : Nat} {ns : List Int} {kb : Nat} {cs : List Int} {V : Value} {K K' : List (MCode × Value)}
    (h : WS w B wb A lc l tick cb ns kb cs V K) (hV : V.ownBlock = some g) (hg : w.grownBy w' (some g)) (hR : RowC w' B (.slice (some ⟨g, 0, none⟩) n cap) K') (hsub : ∀ p ∈ K', p ∈ K) :
    WS (w'.setCell ⟨wb, 4, none⟩ (.slice (some ⟨g, 0, none⟩) n cap)) B wb A lc l tick cb ns kb cs (.slice (some ⟨g, 0, none⟩) n cap) K' := by
  rw [← hV] at hg
  have hlt := h.lt
  have hBw := h.bw
  have hvl := own_block_lt h.row
  have hsz := hg.size
  have hg3 : g ≠ wb ∧ g ≠ cb ∧ g ≠ kb := h.vb g hV
  have ne : ∀ b, b = wb ∨ b = cb ∨ b = kb → some b ≠ V.ownBlock := fun b hb e => by
    have := h.vb b e.symm
    rcases hb with rfl | rfl | rfl
    · exact this.1 rfl
    · exact this.2.1 rfl
    · exact this.2.2 rfl
  have hh := (hg.block wb hlt (ne wb (.inl rfl))).trans h.hw
  have hbel : Below B w (w'.setCell ⟨wb, 4, none⟩ (.slice (some ⟨g, 0, none⟩) n cap)) := ((Below.refl _ _).grown hg (by omega) (fun k hk => (hvl k hk).1)).setCell hBw _
  refine ⟨?_, h.mons.below hbel (Nat.le_refl _), h.bw, h.bc, h.bk, h.n1, h.n2, h.n3, (h.cnt.grown hg (ne cb (.inr (.inl rfl)))).far (fun e => h.n1 e.symm) _, (h.clm.grown hg (ne kb (.inr (.inr rfl)))).far (fun e => h.n2 e.symm) _, ?_, fun k hk => ?_, fun q hq => ?_⟩
  · rw [heap_setCell_same w' wb 4 _ 88 _ hh]; rfl
  · exact hR.keep fun k hk => by
      injection hk with hk
      subst hk
      exact Below.heap_setCell w' ⟨wb, 4, none⟩ _ _ hg3.1
  · injection hk with hk
    subst hk
    exact hg3
  · exact (h.frames q (hsub q hq)).keep (by simpa using hsz) (fun b hb hu => (Below.heap_setCell w' ⟨wb, 4, none⟩ _ b hu.1).trans (hg.block b hb hu.2.2.2.1)) (fun b _ hu => ⟨hu.1, hu.2.1, hu.2.2.1, fun e => hu.2.2.2.1 (by rw [hV]; exact e), hu.2.2.2.2⟩)
theorem frame_one {w : World} {U : Nat → Prop} {p : MCode × Value} (h : FrameU w U p) : p.2.oneCell' = true := by
  obtain ⟨A, cap, e, _⟩ := h
  rw [e]; rfl
set_option maxRecDepth 100000 in
set_option maxHeartbeats 4000000 in
theorem calm_gone {w : World} {B wb : Nat} {A : Option Addr} {lc : Caps} {l : List MMon} {tick : Int} {cb : Nat} {ns : List Int} {kb : Nat} {cs : List Int} {V : Value} {K : List (MCode × Value)}
    (hS : WS w B wb A lc l tick cb ns kb cs V K) (hl : l.length ≤ 20) (hcs : cs.length = l.length) (hK : K.length ≤ 1000000) (hasc : AscC (K.map Prod.fst)) (i : Nat) (hi : i < l.length) (m : MMon) (hm : l[i]? = some m)
    (ix : Nat) (hf : FindP (K.map Prod.fst) i ix true) (ha : ((K.map Prod.fst).getD ix dCode).active = false) (n : Int) (hn : cs.getD i 0 = n) (hnb : 0 ≤ n ∧ n ≤ 100000) (hne : n + 1 = m.heal) :
    Calls Tryd.prog 91 #[.pointer (some ⟨wb, 0, none⟩), .int .i64 i] w fun e w' => e = .returned (.tuple #[]) ∧ (∃ V', WS w' B wb A lc l tick cb ns kb (cs.set i 0) V' (K.eraseIdx ix)) ∧ Below B w w' := by
  have hix : ix < K.length := by have := (hf.2.2.2.1 rfl).1; simpa using this
  obtain ⟨g, cap, rfl, hgB⟩ := hS.form (by omega)
  have hC := find_at (some ⟨g, 0, none⟩) cap (K.map Prod.fst) i w (RowC.codes hS.row hS.frames hK) hasc (by omega) hf
  rw [List.length_map] at hC
  have HC := Lib.hid hC
  have hb0 : ∀ w', Below w.heap.size w w' → WS w' B wb A lc l tick cb ns kb cs (.slice (some ⟨g, 0, none⟩) K.length cap) K := fun w' hb => hS.below hb (Nat.le_refl _)
  have HB := Lib.hid hb0
  have hBw := Nat.le_of_lt (Nat.lt_of_le_of_lt hS.bw hS.lt)
  have hbk := hS.bk
  have hwb := hS.bw
  have g4 := hS.g 4
  simp at g4
  obtain ⟨m', b', off', ht', hA', hblt', hcs'⟩ := hS.mons.at_ hi
  subst hA'
  clear ht' hcs' m'
  obtain ⟨p, hp⟩ : ∃ p, K[ix]? = some p := ⟨_, List.getElem?_eq_getElem hix⟩
  have hpa : p.1.active = false := by
    have e : (K.map Prod.fst).getD ix dCode = p.1 := by rw [List.getD_eq_getElem?_getD, List.getElem?_map, hp]; rfl
    rw [← e]; exact ha
  have hixb : ix ≤ 1000000 := by omega
  have HK := Lib.hid hK
  have HPA := Lib.hid hpa
  have HCS := Lib.hid hcs
  have HM := Lib.hid hm
  have HN := Lib.hid hn
  have HP := Lib.hid hp
  have HNE := Lib.hid hne
  clear hC hb0 hf hK ha hcs hasc hS hm hn hp hpa hne
  go_enter Tryd.func91, Tryd.ntmps91
  go_wp2_with (go_at_call 106; refine HC.out.mono ?_; go_loud (rintro e w1 ⟨rfl, hb1⟩; have HS1 := HB.out _ hb1; obtain ⟨f31, f01, t61, f3, f0, t6⟩ := HS1.clmFacts HCS.out hi HM.out (n + 1); rw [← HNE.out] at t61 t6; have g41 := HS1.g 4; simp at g41; have k0 := HS1.clm.cell hi; rw [HN.out] at k0; have k1 := HS1.clm.frozen i; obtain ⟨c5, c5f⟩ := HS1.codeCell HP.out 5 (by decide); rw [show (cells6 p)[5]? = some (.bool p.1.active) from rfl, HPA.out] at c5))
  go_quiet (fail)
  have hS9 := (HS1.setClm HCS.out hi (n + 1)).below (B' := (w1.setCell ⟨kb, i, none⟩ (.int .i64 (n + 1))).heap.size) (w' := (w1.setCell ⟨kb, i, none⟩ (.int .i64 (n + 1))).drewN nq) ⟨rfl, rfl, rfl, Nat.le_refl _, fun _ _ => rfl⟩ (Nat.le_refl _)
  have hb9 : Below B w ((w1.setCell ⟨kb, i, none⟩ (.int .i64 (n + 1))).drewN nq) := ((hb1.mono hBw).setCell hbk _).trans ⟨rfl, rfl, rfl, Nat.le_refl _, fun _ _ => rfl⟩
  have HS9 := Lib.hid hS9
  have HB9 := Lib.hid hb9
  clear hS9 hb9 f31 f01 t61 f3 f0 t6 g41 k0 k1 c5 c5f HB HC
  generalize (w1.setCell ⟨kb, i, none⟩ (.int .i64 (n + 1))).drewN nq = W9 at *
  clear HS1 hb1
  have g42 : W9.cell? ⟨wb, 4, none⟩ = some (.slice (some ⟨g, 0, none⟩) K.length cap) := HS9.out.g 4
  have hD := delete_any g cap ix K B W9 HS9.out.row hix (fun q hq => frame_one (HS9.out.frames q hq)) HK.out
  rw [Int.natCast_add, Int.natCast_one] at hD
  have HD := Lib.hid hD
  clear hD
  go_wp2_with (go_at_call 115; refine HD.out.mono ?_; go_loud (rintro e w2 ⟨rfl, hR2, hg2⟩; obtain ⟨x4, y4⟩ := HS9.out.box hg2; have hS3 := HS9.out.erased rfl hg2 hR2 (fun q hq => List.mem_of_mem_eraseIdx hq); have HS3 := Lib.hid hS3; have z3 := hS3.g 3; simp at z3; have zk := hS3.clm.cell hi; have zf := hS3.clm.frozen i; have HG2 := Lib.hid hg2; clear hS3 hg2 hR2))
  have hS8 := (HS3.out.setClm (by simpa using HCS.out) hi 0)
  rw [List.set_set] at hS8
  have hB2 : Below B w w2 := HB9.out.grown HG2.out (by have := HB9.out.size; omega) (fun k hk => by injection hk with hk; omega)
  go_end0
  exact ⟨rfl, ⟨_, hS8⟩, (hB2.setCell (p := ⟨wb, 4, none⟩) hwb _).setCell (p := ⟨kb, i, none⟩) hbk _⟩
section
variable {B wb : Nat} {A : Option Addr} {lc : Caps} {l : List MMon} {tick : Int} {cb kb : Nat} {i : Nat} {s : WSt}
theorem calmC_gone (hl : l.length ≤ 20) {m : MMon} (hm : l[i]? = some m) (hi : i < l.length) (hks : s.ks.length ≤ 1000000) (hasc : AscC s.ks) {ix : Nat} (hf : FindP s.ks i ix true) (ha : (s.ks.getD ix dCode).active = false) (hn : 0 ≤ s.cs.getD i 0 ∧ s.cs.getD i 0 ≤ 100000) (hne : s.cs.getD i 0 + 1 = m.heal) :
    CalmC B wb A lc l tick cb kb i s { s with cs := s.cs.set i 0, ks := s.ks.eraseIdx ix } := fun w hT => by
  obtain ⟨e1, e2, V, K, e3, hS⟩ := hT
  refine (calm_gone hS hl e2 (by rw [← List.length_map (f := Prod.fst), e3]; exact hks) (by rw [e3]; exact hasc) i hi m hm ix (by rw [e3]; exact hf) (by rw [e3]; exact ha) _ rfl hn hne).mono ?_
  rintro e w' ⟨h3, ⟨V', h4⟩, h5⟩
  exact ⟨h3, ⟨e1, by simpa using e2, V', _, by rw [← e3, List.eraseIdx_eq_take_drop_succ, List.eraseIdx_eq_take_drop_succ, List.map_append, List.map_take, List.map_drop], h4⟩, h5⟩
end
end Go.Proofs.YtonpemikodajdaaDoor
