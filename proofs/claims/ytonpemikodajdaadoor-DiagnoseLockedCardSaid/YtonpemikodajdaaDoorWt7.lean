/- Walks: code, where it changes nothing; where a code is new and the last. -/
import Derived.Test.YtonpemikodajdaaDoorWt6
namespace Go.Proofs.YtonpemikodajdaaDoor
open Go.RowKit

theorem FindP.uniq {l : List MCode} {t : Int} {i j : Nat} {b c : Bool} (h : FindP l t i b) (h' : FindP l t j c) : i = j ∧ b = c := by
  obtain ⟨h1, h2, h3, h4⟩ := h
  obtain ⟨k1, k2, k3, k4⟩ := h'
  have e : i = j := by
    rcases Nat.lt_trichotomy i j with hh | hh | hh
    · have := k2 i hh
      have := h3 i (Nat.le_refl _) (by omega)
      omega
    · exact hh
    · have := h2 j hh
      have := k3 j (Nat.le_refl _) (by omega)
      omega
  subst e
  refine ⟨rfl, ?_⟩
  rcases b with _ | _ <;> rcases c with _ | _
  · rfl
  · have := h4.2 (k4.1 rfl); cases this
  · have := k4.2 (h4.1 rfl); cases this
  · rfl
theorem find_at (A : Option Addr) (cap : Nat) (l : List MCode) (t : Int) (w : World) (h : CodesA w w.heap.size A l) (hs : AscC l) (ht : 0 ≤ t ∧ t ≤ 1000000) {ix : Nat} {has : Bool} (hf : FindP l t ix has) :
    Calls Tryd.prog 106 #[.slice A l.length cap, .int .i64 t] w fun e w' => e = .returned (.tuple #[.int .i64 ix, .bool has]) ∧ Below w.heap.size w w' :=
  (find_any A cap l t w h hs ht).mono fun e w' ⟨⟨i, b, he, hi⟩, hb⟩ => by
    obtain ⟨rfl, rfl⟩ := hi.uniq hf
    exact ⟨he, hb⟩
theorem MonsA.get {w : World} {B b off : Nat} {l : List MMon} (h : MonsA w B (some ⟨b, off, none⟩) l) {k : Nat} {m : MMon} (hm : l[k]? = some m) (j : Nat) (hj : j < 7) :
    w.cell? ⟨b, off + k * 7 + j, none⟩ = (#[.int .i64 m.sig, .int .i64 m.low, .int .i64 m.high, .int .i64 m.up, .int .i64 m.down, .int .i64 m.limit, .int .i64 m.heal] : Array Value)[j]? := by
  have hk : k < l.length := by
    rcases Nat.lt_or_ge k l.length with hh | hh
    · exact hh
    · rw [List.getElem?_eq_none hh] at hm; cases hm
  obtain ⟨f, b', off', ht, hA, _, t0, t1, t2, t3, t4, t5, t6⟩ := h.at_ hk
  rw [hm] at ht
  injection ht with ht
  subst ht
  injection hA with hA
  injection hA with e1 e2
  subst e1
  subst e2
  rcases (show j = 0 ∨ j = 1 ∨ j = 2 ∨ j = 3 ∨ j = 4 ∨ j = 5 ∨ j = 6 by omega) with rfl | rfl | rfl | rfl | rfl | rfl | rfl
  · exact t0
  · exact t1
  · exact t2
  · exact t3
  · exact t4
  · exact t5
  · exact t6
set_option maxRecDepth 100000 in
set_option maxHeartbeats 2000000 in
theorem code_none {w : World} {B wb : Nat} {A : Option Addr} {lc : Nat} {l : List MMon} {tick : Int} {cb : Nat} {ns : List Int} {kb : Nat} {cs : List Int} {V : Value} {K : List (MCode × Value)}
    (hS : WS w B wb A lc l tick cb ns kb cs V K) (hl : l.length ≤ 20) (hK : K.length ≤ 1000000) (hasc : AscC (K.map Prod.fst)) (i : Nat) (hi : i < l.length) (m : MMon) (hm : l[i]? = some m) (R : Option Addr) (rc : Nat) (row : List Int)
    (ix : Nat) (has : Bool) (hf : FindP (K.map Prod.fst) i ix has) (n : Int) (hn : ns.getD i 0 = n) (h1 : n ≠ m.limit) (h2 : n ≠ 0 ∨ has = false) :
    Calls Tryd.prog 90 #[.pointer (some ⟨wb, 0, none⟩), .int .i64 i, .slice R row.length rc] w fun e w' => e = .returned (.tuple #[]) ∧ WS w' B wb A lc l tick cb ns kb cs V K ∧ Below w.heap.size w w' := by
  obtain ⟨Av, cap, rfl, hcap⟩ := hS.row.lenV
  have hC := find_at Av cap (K.map Prod.fst) i w (RowC.codes hS.row hS.frames hK) hasc (by omega) hf
  rw [List.length_map] at hC
  have HC := Lib.hid hC
  have hb0 : ∀ w', Below w.heap.size w w' → WS w' B wb A lc l tick cb ns kb cs (.slice Av K.length cap) K := fun w' hb => hS.below hb (Nat.le_refl _)
  have HB := Lib.hid hb0
  have g4 := hS.g 4
  simp at g4
  clear hC hb0
  obtain ⟨m', b, off, ht, hA, hblt, hcs⟩ := hS.mons.at_ hi
  subst hA
  clear ht hcs m'
  have HM := Lib.hid hm
  have HN := Lib.hid hn
  clear hm hn
  by_cases hz : n = 0
  · obtain rfl : has = false := by
      rcases h2 with h2 | h2
      · exact absurd hz h2
      · exact h2
    clear h2
    go_enter Tryd.func90, Tryd.ntmps90
    go_wp2_with (go_at_call 106; refine HC.out.mono ?_; rintro e w1 ⟨rfl, hb1⟩; have HS1 := HB.out _ hb1; have g0 := HS1.g 0; simp at g0; have g2 := HS1.g 2; simp at g2; have c0 := HS1.cnt.cell hi; rw [HN.out] at c0; have t5 := HS1.mons.get HM.out 5 (by decide); simp at t5)
    all_goals (go_end0; exact ⟨rfl, HS1, hb1⟩)
  · clear h2
    go_enter Tryd.func90, Tryd.ntmps90
    go_wp2_with (go_at_call 106; refine HC.out.mono ?_; rintro e w1 ⟨rfl, hb1⟩; have HS1 := HB.out _ hb1; have g0 := HS1.g 0; simp at g0; have g2 := HS1.g 2; simp at g2; have c0 := HS1.cnt.cell hi; rw [HN.out] at c0; have t5 := HS1.mons.get HM.out 5 (by decide); simp at t5)
    all_goals (go_end0; exact ⟨rfl, HS1, hb1⟩)
end Go.Proofs.YtonpemikodajdaaDoor
