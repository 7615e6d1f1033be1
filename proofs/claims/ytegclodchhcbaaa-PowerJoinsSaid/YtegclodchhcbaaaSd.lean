/- Walks: ascending, Ranked: the reference's. -/
import Derived.Test.YtegclodchhcbaaaSc
import Derived.Test.YtegclodchhcbaaaRp
import Derived.Test.YtegclodchhcbaaaCa
namespace Go.Proofs.Ytegclodchhcbaaa
open Go.RowKit

theorem setset_get {m : List Int} {i j t : Nat} (hi : i < m.length) (hj : j < m.length) (x y : Int) : ((m.set i y).set j x).getD t 0 = if t = j then x else if t = i then y else m.getD t 0 := by
  simp only [List.getD_eq_getElem?_getD, List.getElem?_set, List.length_set]
  by_cases h1 : t = j
  · subst h1
    simp [hj]
  · rw [if_neg (fun e => h1 e.symm), if_neg h1]
    by_cases h2 : t = i
    · subst h2
      simp [hi]
    · rw [if_neg (fun e => h2 e.symm), if_neg h2]
theorem swap_perm {m m0 : List Int} {i j : Nat} (h : m.Perm m0) (hi : i < m.length) (hj : j < m.length) : ((m.set i (m.getD j 0)).set j (m.getD i 0)).Perm m0 := by
  have := @List.set_set_perm _ m i j hi hj
  rw [List.getD_eq_getElem?_getD, List.getD_eq_getElem?_getD, List.getElem?_eq_getElem hi, List.getElem?_eq_getElem hj]
  exact this.trans h
/-- a list of L in a block, a permutation of m0 -/
structure PermA (w : World) (g L : Nat) (m0 m : List Int) : Prop where
  len : m.length = L
  per : m.Perm m0
  own : OwnF w g 3 L (fun t => .int .i64 (m.getD t 0))
theorem PermA.cells {w : World} {g L : Nat} {m0 m : List Int} (h : PermA w g L m0 m) {i : Nat} (hi : i < L) : w.cell? ⟨g, i, none⟩ = some (.int .i64 (m.getD i 0)) ∧ w.frozen? ⟨g, i, none⟩ = false := ⟨h.own.cell hi, h.own.frozen i⟩
theorem PermA.swap {w : World} {g L : Nat} {m0 m : List Int} (h : PermA w g L m0 m) {i : Nat} (hi : i < L) : PermA ((w.setCell ⟨g, i, none⟩ (.int .i64 (m.getD (i - 1) 0))).setCell ⟨g, i - 1, none⟩ (.int .i64 (m.getD i 0))) g L m0 ((m.set i (m.getD (i - 1) 0)).set (i - 1) (m.getD i 0)) := by
  have hm := h.len
  refine ⟨by simp [hm], swap_perm h.per (by omega) (by omega), ((h.own.set i _).set (i - 1) _).congr fun t _ => ?_⟩
  rw [setset_get (by omega) (by omega)]
  by_cases h1 : t = i - 1
  · rw [if_pos h1, if_pos h1]
  · rw [if_neg h1, if_neg h1]
    by_cases h2 : t = i
    · rw [if_pos h2, if_pos h2]
    · rw [if_neg h2, if_neg h2]
def AscP (w : World) (l : List Int) (x : Int) (e : Ending) (w' : World) : Prop := ∃ g wc m, e = .returned (.slice (some ⟨g, 0, none⟩) (l.length + 1) wc) ∧ PermA w' g (l.length + 1) (l ++ [x]) m ∧ w.heap.size ≤ g ∧ Below w.heap.size w w'
set_option maxRecDepth 100000 in
set_option maxHeartbeats 4000000 in
theorem ascending_any (A : Option Addr) (cap : Nat) (l : List Int) (x : Int) (w : World) (h : IntsA w w.heap.size A l) (hl : l.length ≤ 1000) :
    Calls Try.prog 91 #[.slice A l.length cap, .int .i64 x] w (AscP w l x) := by
  have hO := own_empty w
  have hlen : (l ++ [x]).length = l.length + 1 := by simp
  have HLN := Lib.hid hlen
  have hB0 : Below w.heap.size w (w.alloc (.cells #[] 3)) := (Below.refl _ _).alloc (Nat.le_refl _) _
  have HO := Lib.hid hO
  have HB0 := Lib.hid hB0
  have ARM9 : Hid (∀ w9 v9, OutI w9 w.heap.size v9 l → w.heap.size ≤ w9.heap.size → OutI (w9.alloc (.cells #[.int .i64 x] 3)) w.heap.size v9 l ∧ (w9.alloc (.cells #[.int .i64 x] 3)).cell? ⟨w9.heap.size, 0, none⟩ = some (.int .i64 x) ∧ w.heap.size ≤ (w9.alloc (.cells #[.int .i64 x] 3)).heap.size) := fun w9 v9 h9 hb => ⟨own_below h9 ((Below.refl _ _).alloc (Nat.le_refl _) _) (fun k hk => (own_block_lt h9 k hk).2), newcell w9 _ 3 0, by simp; omega⟩
  have ARM12 : Hid (∀ w9 v9 v12 w12, OutI w9 w.heap.size v9 l → Below w.heap.size w w9 → OutI w12 w.heap.size v12 (l ++ [x]) → (w9.alloc (.cells #[.int .i64 x] 3)).grownBy w12 v9.ownBlock → ∃ g c, v12 = .slice (some ⟨g, 0, none⟩) (l.length + 1) c ∧ PermA w12 g (l.length + 1) (l ++ [x]) (l ++ [x]) ∧ w.heap.size ≤ g ∧ Below w.heap.size w w12) := fun w9 v9 v12 w12 h9 hb9 h12 hg => by
    obtain ⟨A12, c12, rfl, _, _⟩ := h12.lenV
    obtain ⟨g, rfl, hgB, hog⟩ := h12.ownF (by omega)
    rw [hlen] at hog
    refine ⟨g, c12, by rw [hlen], ⟨hlen, List.Perm.refl _, hog⟩, hgB, ?_⟩
    exact (hb9.alloc hb9.size _).grown hg (by have := hb9.size; simp; omega) (fun k hk => (own_block_lt h9 k hk).1)
  clear hO hB0 hlen
  rcases A with _ | ⟨ab, ao, au⟩
  · obtain rfl : l = [] := by
      rcases l with _ | ⟨y, r⟩
      · rfl
      · obtain ⟨b, off, e, _⟩ := h.2 (by simp)
        cases e
    have HO9 : Hid (OutI (w.alloc (.cells #[] 3)) w.heap.size (.slice (some ⟨w.heap.size, 0, none⟩) 0 0) []) := HO
    simp only [List.length_nil, Nat.zero_add, List.nil_append] at *
    clear h
    go_enter Try.func91, Try.ntmps91
    go_upto_region 2 with (first
      | (at_builtin; refine app_int _ rfl _ _ rfl w.heap.size _ [] rfl (ARM9.out _ _ HO9.out HB0.out.size).1 (w.heap.size + 1) x rfl (by have h9 := (ARM9.out _ _ HO9.out HB0.out.size).2.1; rw [World.size_alloc] at h9; exact h9) (by simp) (ARM9.out _ _ HO9.out HB0.out.size).2.2 ?_; intro v12 w12 hO12 hg12; obtain ⟨g, c12, rfl, hP, hgB, hb12⟩ := ARM12.out _ _ v12 w12 HO9.out HB0.out hO12 hg12; have HP0 := Lib.hid hP; have HB12 := Lib.hid hb12; have HGB := Lib.hid hgB; clear hO12 hg12 hP hb12 hgB)
      | fail)
    go_wp2_with fail
    go_loopw [6] (fun vi wr => ∃ (i : Nat) (m : List Int), i ≤ 0 ∧ vi = .int .i64 i ∧ Hid (PermA wr g (1) [x] m) ∧ Hid (Below w.heap.size w wr)) (fun vi _ => (intOf vi).toNat)
    case atStart => exact ⟨0, _, Nat.le_refl _, by go_num, HP0.out, HB12.out⟩
    case round =>
      clear HP0 HB12
      obtain ⟨i, m, hi, rfl, HP, HB⟩ := hrel
      rename World => wr
      have HI := Lib.hid hi
      obtain rfl : i = 0 := by omega
      go_upto_region 3 with fail
      go_quiet (fail)
      have HP5 : Hid (PermA (wr.drewN nq) g (1) [x] m) := ⟨HP.out.len, HP.out.per, HP.out.own.drewN nq⟩
      have HB5 : Hid (Below w.heap.size w (wr.drewN nq)) := bdrw HB.out nq
      generalize wr.drewN nq = w5 at *
      go_wp2_with fail
      go_ret
      exact ⟨g, c12, m, rfl, HP5.out, HGB.out, HB5.out⟩
  · have hcells : ∀ j, j < l.length → (w.alloc (.cells #[] 3)).cell? (Addr.add ⟨ab, ao, au⟩ j) = some (.int .i64 (l.getD j 0)) := fun j hj => by
      obtain ⟨b, off, hA, hb, x0⟩ := h.at_ hj
      cases hA
      rw [add_none0, acell _ _ _ _ hb]
      exact x0
    have HCE := Lib.hid hcells
    clear h hcells
    go_enter Try.func91, Try.ntmps91
    go_upto_region 2 with (first
      | (at_builtin; refine app_ints _ rfl _ _ rfl w.heap.size _ [] rfl HO.out ⟨ab, ao, au⟩ l.length cap l rfl rfl HCE.out (by simp; omega) (by simp) ?_; intro v9 w9 hO9 hg9; have HO9 : Hid (OutI w9 w.heap.size v9 l) := hO9; have HB9 : Hid (Below w.heap.size w w9) := HB0.out.grown hg9 HB0.out.size (fun k hk => (own_block_lt HO.out k hk).1); clear hO9 hg9)
      | (at_builtin; refine app_int _ rfl _ _ rfl w.heap.size v9 l rfl (ARM9.out w9 v9 HO9.out HB9.out.size).1 w9.heap.size x rfl (ARM9.out w9 v9 HO9.out HB9.out.size).2.1 (by omega) (ARM9.out w9 v9 HO9.out HB9.out.size).2.2 ?_; intro v12 w12 hO12 hg12; obtain ⟨g, c12, rfl, hP, hgB, hb12⟩ := ARM12.out w9 v9 v12 w12 HO9.out HB9.out hO12 hg12; have HP0 := Lib.hid hP; have HB12 := Lib.hid hb12; have HGB := Lib.hid hgB; clear hO12 hg12 hP hb12 hgB)
      | fail)
    have HL := Lib.hid hl
    go_wp2_with fail
    go_loopw [6] (fun vi wr => ∃ (i : Nat) (m : List Int), i ≤ l.length ∧ vi = .int .i64 i ∧ Hid (PermA wr g (l.length + 1) (l ++ [x]) m) ∧ Hid (Below w.heap.size w wr)) (fun vi _ => (intOf vi).toNat)
    case atStart => exact ⟨l.length, _, Nat.le_refl _, by go_num, HP0.out, HB12.out⟩
    case round =>
      clear HP0 HB12
      obtain ⟨i, m, hi, rfl, HP, HB⟩ := hrel
      rename World => wr
      have HI := Lib.hid hi
      by_cases hi0 : 0 < i
      · obtain ⟨x1, f1⟩ := HP.out.cells (show i < l.length + 1 by omega)
        obtain ⟨x2, f2⟩ := HP.out.cells (show i - 1 < l.length + 1 by omega)
        have HSW : Hid (∀ W, PermA W g (l.length + 1) (l ++ [x]) m → W.cell? ⟨g, i, none⟩ = some (.int .i64 (m.getD i 0)) ∧ W.cell? ⟨g, i - 1, none⟩ = some (.int .i64 (m.getD (i - 1) 0)) ∧ W.frozen? ⟨g, i, none⟩ = false ∧ W.frozen? ⟨g, i - 1, none⟩ = false ∧ PermA ((W.setCell ⟨g, i, none⟩ (.int .i64 (m.getD (i - 1) 0))).setCell ⟨g, i - 1, none⟩ (.int .i64 (m.getD i 0))) g (l.length + 1) (l ++ [x]) ((m.set i (m.getD (i - 1) 0)).set (i - 1) (m.getD i 0))) := fun W hW => ⟨(hW.cells (by omega)).1, (hW.cells (by omega)).1, (hW.cells (by omega)).2, (hW.cells (by omega)).2, hW.swap (by omega)⟩
        have HI0 := Lib.hid hi0
        by_cases hlt : m.getD i 0 < m.getD (i - 1) 0
        · have hd : decide (m.getD i 0 < m.getD (i - 1) 0) = true := decide_eq_true hlt
          clear hlt
          generalize m.getD i 0 = a at *
          generalize m.getD (i - 1) 0 = b at *
          go_upto_region 3 with fail
          go_quiet (fail)
          have HP5 : Hid (PermA (wr.drewN nq) g (l.length + 1) (l ++ [x]) m) := ⟨HP.out.len, HP.out.per, HP.out.own.drewN nq⟩
          have HB5 : Hid (Below w.heap.size w (wr.drewN nq)) := bdrw HB.out nq
          clear x1 f1 x2 f2
          generalize wr.drewN nq = w5 at *
          obtain ⟨x1, x2, f1, f2, hs⟩ := HSW.out w5 HP5.out
          have HS := Lib.hid hs
          obtain ⟨v3, hy3⟩ := cell?_setCell_some (w := w5) (p := ⟨g, i, none⟩) (x := .int .i64 b) (q := ⟨g, i - 1, none⟩) x2
          clear hs
          go_upto_region 5 with fail
          go_region
          go_wp2_with fail
          go_roundw
          case rel => exact ⟨i - 1, _, by omega, by go_num, ⟨HS.out.len, HS.out.per, HS.out.own.drewN 1⟩, ((HB5.out.setCell (p := ⟨g, i, none⟩) HGB.out _).setCell (p := ⟨g, i - 1, none⟩) HGB.out _).drew⟩
          case measure => simp [intOf]; omega
        · have hd : decide (m.getD i 0 < m.getD (i - 1) 0) = false := decide_eq_false hlt
          clear hlt
          generalize m.getD i 0 = a at *
          generalize m.getD (i - 1) 0 = b at *
          go_upto_region 3 with fail
          go_quiet (fail)
          have HP5 : Hid (PermA (wr.drewN nq) g (l.length + 1) (l ++ [x]) m) := ⟨HP.out.len, HP.out.per, HP.out.own.drewN nq⟩
          have HB5 : Hid (Below w.heap.size w (wr.drewN nq)) := bdrw HB.out nq
          clear x1 f1 x2 f2
          generalize wr.drewN nq = w5 at *
          go_wp2_with fail
          go_ret
          exact ⟨g, c12, m, rfl, HP5.out, HGB.out, HB5.out⟩
      · obtain rfl : i = 0 := by omega
        go_upto_region 3 with fail
        go_quiet (fail)
        have HP5 : Hid (PermA (wr.drewN nq) g (l.length + 1) (l ++ [x]) m) := ⟨HP.out.len, HP.out.per, HP.out.own.drewN nq⟩
        have HB5 : Hid (Below w.heap.size w (wr.drewN nq)) := bdrw HB.out nq
        generalize wr.drewN nq = w5 at *
        go_wp2_with fail
        go_ret
        exact ⟨g, c12, m, rfl, HP5.out, HGB.out, HB5.out⟩
end Go.Proofs.Ytegclodchhcbaaa
