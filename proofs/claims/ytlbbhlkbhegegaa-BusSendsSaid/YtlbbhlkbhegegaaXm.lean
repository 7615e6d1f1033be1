/- Walks: the sort of packets: stable insertion, swaps, rotations, merges of the ends. -/
import Derived.Test.YtlbbhlkbhegegaaXa
/- Walks: packets in memory; their comparison; exchange, swapRange, rotate. Printed by gen_xb.py. -/
namespace Go.Proofs.Ytlbbhlkbhegegaa
open Go.RowKit

def pkV (x : MPkt) : Value := .agg #[.int .i64 x.flow, .int .i64 x.hop, .int .i64 x.born, .int .i64 x.many]
def pkAt (x : MPkt) (j : Nat) : Value := if j = 0 then .int .i64 x.flow else if j = 1 then .int .i64 x.hop else if j = 2 then .int .i64 x.born else .int .i64 x.many
theorem pkAt_one (x : MPkt) (j : Nat) : (pkAt x j).oneCell' = true := by unfold pkAt; (repeat' split) <;> rfl
/-- packets in memory of the call's own -/
def OwnP (w : World) (g : Nat) (l : List MPkt) : Prop := OwnF w g 117 (l.length * 4) (fun p => pkAt (l.getD (p / 4) dPkt) (p % 4))
theorem getD_of {l : List MPkt} {k : Nat} {x : MPkt} (hx : l[k]? = some x) : l.getD k dPkt = x := by rw [List.getD_eq_getElem?_getD, hx]; rfl
section
variable {w w' : World} {g : Nat} {l : List MPkt}
theorem OwnP.cell4 (h : OwnP w g l) {k : Nat} {x : MPkt} (hx : l[k]? = some x) {j : Nat} (hj : j < 4) : w.cell? ⟨g, k * 4 + j, none⟩ = some (pkAt x j) := by
  have hk := lt_of_get hx
  have h0 := OwnF.cell h (j := k * 4 + j) (by omega)
  rw [show (k * 4 + j) / 4 = k by omega, show (k * 4 + j) % 4 = j by omega, getD_of hx] at h0
  exact h0
theorem OwnP.at_ (h : OwnP w g l) {k : Nat} {x : MPkt} (hx : l[k]? = some x) : w.cell? ⟨g, k * 4, none⟩ = some (.int .i64 x.flow) ∧ w.cell? ⟨g, k * 4 + 1, none⟩ = some (.int .i64 x.hop) ∧ w.cell? ⟨g, k * 4 + 2, none⟩ = some (.int .i64 x.born) ∧ w.cell? ⟨g, k * 4 + 3, none⟩ = some (.int .i64 x.many) :=
  ⟨h.cell4 hx (j := 0) (by omega), h.cell4 hx (j := 1) (by omega), h.cell4 hx (j := 2) (by omega), h.cell4 hx (j := 3) (by omega)⟩
theorem OwnP.fz (h : OwnP w g l) (j : Nat) : w.frozen? ⟨g, j, none⟩ = false := OwnF.frozen h j
theorem OwnP.below {B : Nat} (h : OwnP w g l) (hb : Below B w w') (hg : g < B) : OwnP w' g l := OwnF.below h hb hg
theorem OwnP.lt (h : OwnP w g l) : g < w.heap.size := OwnF.lt h
theorem OwnP.drew (h : OwnP w g l) : OwnP w.drew g l := h
def put4 (w : World) (g k : Nat) (x : MPkt) : World := (((w.setCell ⟨g, k * 4, none⟩ (.int .i64 x.flow)).setCell ⟨g, k * 4 + 1, none⟩ (.int .i64 x.hop)).setCell ⟨g, k * 4 + 2, none⟩ (.int .i64 x.born)).setCell ⟨g, k * 4 + 3, none⟩ (.int .i64 x.many)
theorem OwnP.put (h : OwnP w g l) {k : Nat} (hk : k < l.length) (x : MPkt) : OwnP (put4 w g k x) g (l.set k x) := by
  unfold OwnP put4
  rw [List.length_set]
  refine (OwnF.set (OwnF.set (OwnF.set (OwnF.set h (k * 4) (.int .i64 x.flow)) (k * 4 + 1) (.int .i64 x.hop)) (k * 4 + 2) (.int .i64 x.born)) (k * 4 + 3) (.int .i64 x.many)).congr fun p hp => ?_
  (try dsimp only)
  by_cases hq : p / 4 = k
  · rw [hq, getD_of (List.getElem?_set_self hk)]
    have h4 : p % 4 < 4 := Nat.mod_lt _ (by omega)
    have hd := Nat.div_add_mod p 4
    rw [hq] at hd
    unfold pkAt
    have : p % 4 = 0 ∨ p % 4 = 1 ∨ p % 4 = 2 ∨ p % 4 = 3 := by omega
    rcases this with e | e | e | e
    · rw [if_neg (by omega), if_neg (by omega), if_neg (by omega), if_pos (by omega), if_pos e]
    · rw [if_neg (by omega), if_neg (by omega), if_pos (by omega), if_neg (by omega), if_pos e]
    · rw [if_neg (by omega), if_pos (by omega), if_neg (by omega), if_neg (by omega), if_pos e]
    · rw [if_pos (by omega), if_neg (by omega), if_neg (by omega), if_neg (by omega)]
  · have e1 : (l.set k x).getD (p / 4) dPkt = l.getD (p / 4) dPkt := by
      rw [List.getD_eq_getElem?_getD, List.getD_eq_getElem?_getD, List.getElem?_set_ne (fun e => hq e.symm)]
    rw [e1, if_neg (by omega), if_neg (by omega), if_neg (by omega), if_neg (by omega)]
theorem put4_below {B : Nat} {W : World} (h : Below B W w) (hg : B ≤ g) (k : Nat) (x : MPkt) : Below B W (put4 w g k x) :=
  (((h.setCell (p := ⟨g, k * 4, none⟩) hg _).setCell (p := ⟨g, k * 4 + 1, none⟩) hg _).setCell (p := ⟨g, k * 4 + 2, none⟩) hg _).setCell (p := ⟨g, k * 4 + 3, none⟩) hg _
end
/-- nothing but block d, and what is new, has changed -/
structure OnlyB (d : Nat) (w w' : World) : Prop where
  os : w'.os = w.os
  tape : w'.tape = w.tape
  output : w'.output = w.output
  size : w.heap.size ≤ w'.heap.size
  block : ∀ k, k < w.heap.size → k ≠ d → w'.heap[k]? = w.heap[k]?
theorem OnlyB.refl (d : Nat) (w : World) : OnlyB d w w := ⟨rfl, rfl, rfl, Nat.le_refl _, fun _ _ _ => rfl⟩
theorem OnlyB.trans {d : Nat} {a b c : World} (h : OnlyB d a b) (k : OnlyB d b c) : OnlyB d a c :=
  ⟨k.os.trans h.os, k.tape.trans h.tape, k.output.trans h.output, Nat.le_trans h.size k.size, fun i hi hd => (k.block i (Nat.lt_of_lt_of_le hi h.size) hd).trans (h.block i hi hd)⟩
theorem OnlyB.of {d : Nat} {a b : World} (h : Below a.heap.size a b) : OnlyB d a b := ⟨h.os, h.tape, h.output, h.size, fun i hi _ => h.block i hi⟩
theorem OnlyB.drew {d : Nat} {a b : World} (h : OnlyB d a b) : OnlyB d a b.drew := ⟨h.os, h.tape, h.output, h.size, h.block⟩
theorem OnlyB.drewN' {d : Nat} {a b : World} (h : OnlyB d a b) (n : Nat) : OnlyB d a (b.drewN n) := ⟨h.os, h.tape, h.output, h.size, h.block⟩
theorem OnlyB.setCell {d : Nat} {a b : World} (h : OnlyB d a b) (j : Nat) (v : Value) : OnlyB d a (b.setCell ⟨d, j, none⟩ v) :=
  ⟨h.os, h.tape, h.output, by simpa using h.size, fun i hi hd => (Below.heap_setCell b ⟨d, j, none⟩ v i hd).trans (h.block i hi hd)⟩
theorem OnlyB.put4 {d n0 : Nat} {W w : World} (h : OnlyB d W w) (_ : n0 ≤ d) (k : Nat) (x : MPkt) : OnlyB d W (Go.Proofs.Ytlbbhlkbhegegaa.put4 w d k x) :=
  (((h.setCell _ _).setCell _ _).setCell _ _).setCell _ _
theorem OnlyB.grown {d : Nat} {a b : World} (h : OnlyB d a b) : a.grownBy b (some d) := ⟨h.os, h.tape, h.output, h.size, fun k hk hd => h.block k hk fun e => hd (by rw [e])⟩
section
variable {n0 d : Nat}
set_option maxRecDepth 100000 in
theorem cmpp_any (x y : MPkt) (w : World) {v : Int} (hv : cmpV x.flow y.flow = v) : Calls Try.prog 113 #[pkV x, pkV y] w fun e w' => e = .returned (.int .i64 v) ∧ Below w.heap.size w w' := by
  unfold pkV
  have HC := Lib.hid (fun W => compare_any x.flow y.flow W hv)
  clear hv
  obtain ⟨w1, hw1⟩ : ∃ w1, (w.alloc (.cells #[.int .i64 x.flow, .int .i64 x.hop, .int .i64 x.born, .int .i64 x.many] 117)).alloc (.cells #[.int .i64 y.flow, .int .i64 y.hop, .int .i64 y.born, .int .i64 y.many] 117) = w1 := ⟨_, rfl⟩
  have HB : Hid (Below w.heap.size w w1) := by rw [← hw1]; exact ((Below.refl _ _).alloc (Nat.le_refl _) _).alloc (by simp) _
  have hx1 : w1.heap[w.heap.size]? = some (.cells #[.int .i64 x.flow, .int .i64 x.hop, .int .i64 x.born, .int .i64 x.many] 117 (0, 0)) := by rw [← hw1]; exact (Below.heap_alloc _ _ _ (by simp)).trans (heap_alloc_new w _)
  have hx2 : w1.heap[w.heap.size + 1]? = some (.cells #[.int .i64 y.flow, .int .i64 y.hop, .int .i64 y.born, .int .i64 y.many] 117 (0, 0)) := by rw [← hw1]; exact alloc_new1 w _ _
  have p1 := cell_of_row w1 _ 0 _ _ _ hx1
  have p2 := cell_of_row w1 _ 0 _ _ _ hx2
  simp only [List.getElem?_toArray, List.getElem?_cons_zero] at p1 p2
  clear hx1 hx2
  go_enter Try.func113, Try.ntmps113
  go_upto_region 1 with fail
  (try rw [hw1])
  clear hw1
  go_wp2_with (go_at_call 114; refine (HC.out _).mono ?_; rintro e w2 ⟨rfl, rfl⟩)
  go_ret
  exact ⟨rfl, HB.out⟩
theorem get_mid {α : Type} (A : List α) (x : α) (B : List α) : (A ++ x :: B)[A.length]? = some x := by rw [List.getElem?_append_right (Nat.le_refl _), Nat.sub_self]; rfl
theorem set_mid {α : Type} (A : List α) (x y : α) (B : List α) : (A ++ x :: B).set A.length y = A ++ y :: B := by simp
/-- two equal ranges, the first i of each exchanged -/
theorem swr_get {X Q1 P2 M P1 Q2 Y : List MPkt} {p q : MPkt} (h : P1.length = Q1.length) :
    (X ++ (Q1 ++ p :: P2) ++ M ++ (P1 ++ q :: Q2) ++ Y)[X.length + Q1.length]? = some p ∧ (X ++ (Q1 ++ p :: P2) ++ M ++ (P1 ++ q :: Q2) ++ Y)[X.length + (Q1.length + (P2.length + 1)) + M.length + Q1.length]? = some q ∧
    ((X ++ (Q1 ++ p :: P2) ++ M ++ (P1 ++ q :: Q2) ++ Y).set (X.length + Q1.length) q).set (X.length + (Q1.length + (P2.length + 1)) + M.length + Q1.length) p = X ++ (Q1 ++ q :: P2) ++ M ++ (P1 ++ p :: Q2) ++ Y := by
  have e1 : ∀ p q, X ++ (Q1 ++ p :: P2) ++ M ++ (P1 ++ q :: Q2) ++ Y = (X ++ Q1) ++ p :: (P2 ++ M ++ (P1 ++ q :: Q2) ++ Y) := fun p q => by simp
  have e2 : ∀ p q, X ++ (Q1 ++ p :: P2) ++ M ++ (P1 ++ q :: Q2) ++ Y = (X ++ (Q1 ++ p :: P2) ++ M ++ P1) ++ q :: (Q2 ++ Y) := fun p q => by simp
  have l1 : (X ++ Q1).length = X.length + Q1.length := by simp
  have l2 : ∀ p : MPkt, (X ++ (Q1 ++ p :: P2) ++ M ++ P1).length = X.length + (Q1.length + (P2.length + 1)) + M.length + Q1.length := fun p => by simp [h]; omega
  refine ⟨?_, ?_, ?_⟩
  · rw [e1, ← l1]; exact get_mid _ _ _
  · rw [e2, ← l2 p]; exact get_mid _ _ _
  · rw [e1, ← l1, set_mid, ← e1, e2, ← l2 q, set_mid, ← e2]
set_option maxRecDepth 100000 in
set_option maxHeartbeats 8000000 in
theorem swapRange_any (X P M Q Y : List MPkt) (N a b n cap : Nat) (f : Value) (w : World) (ho : OwnP w d (X ++ P ++ M ++ Q ++ Y)) (hd : n0 ≤ d) (hN : (X ++ P ++ M ++ Q ++ Y).length = N) (hn : N ≤ 1000000) (ha : X.length = a) (hp : P.length = n) (hq : Q.length = n) (hb : a + n + M.length = b) :
    Calls Try.prog 138 #[.slice (some ⟨d, 0, none⟩) N cap, .int .i64 (a : Int), .int .i64 (b : Int), .int .i64 (n : Int), f] w fun e w' => e = .returned (.tuple #[]) ∧ OwnP w' d (X ++ Q ++ M ++ P ++ Y) ∧ OnlyB d w w' := by
  have HO := Lib.hid ho
  have HBR : Hid (OnlyB d w w) := OnlyB.refl _ _
  have hbn : b + n ≤ N ∧ a + n ≤ b := ⟨by rw [← hN]; simp; omega, by omega⟩
  have HL : Hid (X.length = a ∧ P.length = n ∧ Q.length = n ∧ a + n + M.length = b) := ⟨ha, hp, hq, hb⟩
  clear ho hN ha hp hq hb
  go_enter Try.func138, Try.ntmps138
  go_wp2_with fail
  go_loopw [10] (fun vi wr => ∃ (P1 P2 Q1 Q2 : List MPkt) (i : Nat), vi = .int .i64 i ∧ i ≤ n ∧ Hid (P = P1 ++ P2 ∧ Q = Q1 ++ Q2 ∧ P1.length = i ∧ Q1.length = i) ∧ Hid (OwnP wr d (X ++ (Q1 ++ P2) ++ M ++ (P1 ++ Q2) ++ Y)) ∧ Hid (OnlyB d w wr)) (fun vi _ => n - (intOf vi).toNat)
  case atStart => exact ⟨[], P, [], Q, 0, rfl, Nat.zero_le _, ⟨rfl, rfl, rfl, rfl⟩, HO.out, HBR.out⟩
  case round =>
    clear HO HBR
    obtain ⟨P1, P2, Q1, Q2, i, rfl, hi, HE, HZ, HB⟩ := hrel
    rename World => w5
    by_cases hlt : i < n
    · have HLT := Lib.hid hlt
      obtain ⟨x, P3, rfl⟩ : ∃ x P3, P2 = x :: P3 := by
        rcases P2 with _ | ⟨x, P3⟩
        · have h1 := HE.out; have h2 := HL.out
          rw [h1.1, List.append_nil] at h2
          omega
        · exact ⟨x, P3, rfl⟩
      obtain ⟨y, Q3, rfl⟩ : ∃ y Q3, Q2 = y :: Q3 := by
        rcases Q2 with _ | ⟨y, Q3⟩
        · have h1 := HE.out; have h2 := HL.out
          rw [h1.2.1, List.append_nil] at h2
          omega
        · exact ⟨y, Q3, rfl⟩
      have HG := Lib.hid (swr_get (X := X) (Q1 := Q1) (P2 := P3) (M := M) (P1 := P1) (Q2 := Q3) (Y := Y) (p := x) (q := y) (HE.out.2.2.1.trans HE.out.2.2.2.symm))
      have HIX : Hid (X.length + Q1.length = a + i ∧ X.length + (Q1.length + (P3.length + 1)) + M.length + Q1.length = b + i) := by
        have h1 := HE.out; have h2 := HL.out
        rw [h1.1] at h2
        simp only [List.length_append, List.length_cons] at h2
        constructor <;> omega
      obtain ⟨L, hL⟩ : ∃ L, X ++ (Q1 ++ x :: P3) ++ M ++ (P1 ++ y :: Q3) ++ Y = L := ⟨_, rfl⟩
      obtain ⟨u, hu⟩ : ∃ u, a + i = u := ⟨_, rfl⟩
      obtain ⟨v, hv⟩ : ∃ v, b + i = v := ⟨_, rfl⟩
      have c1 : ((a : Int) + (i : Int)) = (u : Int) := by omega
      have c2 : ((b : Int) + (i : Int)) = (v : Int) := by omega
      have hai : u < N := by omega
      have hbi : v < N := by omega
      rw [hL, HIX.out.1, HIX.out.2, hu, hv] at HG
      rw [hL] at HZ
      clear hu hv
      have hx := HG.out.1
      have hy := HG.out.2.1
      have HLN : Hid (u < L.length ∧ v < L.length) := ⟨lt_of_get hx, lt_of_get hy⟩
      have HSW : Hid (OwnP (put4 (put4 w5 d u y) d v x).drew d (X ++ (Q1 ++ y :: P3) ++ M ++ (P1 ++ x :: Q3) ++ Y)) := by
        have h1 := (HZ.out.put HLN.out.1 y).put (k := v) (by rw [List.length_set]; exact HLN.out.2) x
        rw [HG.out.2.2] at h1
        exact h1.drew
      have HSB : Hid (OnlyB d w (put4 (put4 w5 d u y) d v x).drew) := (OnlyB.put4 (OnlyB.put4 HB.out hd u y) hd v x).drew
      unfold put4 at HSW HSB
      obtain ⟨p0, p1, p2, p3⟩ := HZ.out.at_ hx
      obtain ⟨q0, q1, q2, q3⟩ := HZ.out.at_ hy
      have fa0 := HZ.out.fz (u * 4)
      have fa1 := HZ.out.fz (u * 4 + 1)
      have fa2 := HZ.out.fz (u * 4 + 2)
      have fa3 := HZ.out.fz (u * 4 + 3)
      have fb0 := HZ.out.fz (v * 4)
      have fb1 := HZ.out.fz (v * 4 + 1)
      have fb2 := HZ.out.fz (v * 4 + 2)
      have fb3 := HZ.out.fz (v * 4 + 3)
      obtain ⟨_, y1_0⟩ := cell?_setCell_some (w := w5) (p := ⟨d, u * 4, none⟩) (x := .int .i64 y.flow) (q := ⟨d, u * 4 + 1, none⟩) p1
      obtain ⟨_, y2_0⟩ := cell?_setCell_some (w := w5) (p := ⟨d, u * 4, none⟩) (x := .int .i64 y.flow) (q := ⟨d, u * 4 + 2, none⟩) p2
      obtain ⟨_, y2_1⟩ := cell?_setCell_some (w := (w5.setCell ⟨d, u * 4, none⟩ (.int .i64 y.flow))) (p := ⟨d, u * 4 + 1, none⟩) (x := .int .i64 y.hop) (q := ⟨d, u * 4 + 2, none⟩) y2_0
      obtain ⟨_, y3_0⟩ := cell?_setCell_some (w := w5) (p := ⟨d, u * 4, none⟩) (x := .int .i64 y.flow) (q := ⟨d, u * 4 + 3, none⟩) p3
      obtain ⟨_, y3_1⟩ := cell?_setCell_some (w := (w5.setCell ⟨d, u * 4, none⟩ (.int .i64 y.flow))) (p := ⟨d, u * 4 + 1, none⟩) (x := .int .i64 y.hop) (q := ⟨d, u * 4 + 3, none⟩) y3_0
      obtain ⟨_, y3_2⟩ := cell?_setCell_some (w := ((w5.setCell ⟨d, u * 4, none⟩ (.int .i64 y.flow)).setCell ⟨d, u * 4 + 1, none⟩ (.int .i64 y.hop))) (p := ⟨d, u * 4 + 2, none⟩) (x := .int .i64 y.born) (q := ⟨d, u * 4 + 3, none⟩) y3_1
      obtain ⟨_, y4_0⟩ := cell?_setCell_some (w := w5) (p := ⟨d, u * 4, none⟩) (x := .int .i64 y.flow) (q := ⟨d, v * 4, none⟩) q0
      obtain ⟨_, y4_1⟩ := cell?_setCell_some (w := (w5.setCell ⟨d, u * 4, none⟩ (.int .i64 y.flow))) (p := ⟨d, u * 4 + 1, none⟩) (x := .int .i64 y.hop) (q := ⟨d, v * 4, none⟩) y4_0
      obtain ⟨_, y4_2⟩ := cell?_setCell_some (w := ((w5.setCell ⟨d, u * 4, none⟩ (.int .i64 y.flow)).setCell ⟨d, u * 4 + 1, none⟩ (.int .i64 y.hop))) (p := ⟨d, u * 4 + 2, none⟩) (x := .int .i64 y.born) (q := ⟨d, v * 4, none⟩) y4_1
      obtain ⟨_, y4_3⟩ := cell?_setCell_some (w := (((w5.setCell ⟨d, u * 4, none⟩ (.int .i64 y.flow)).setCell ⟨d, u * 4 + 1, none⟩ (.int .i64 y.hop)).setCell ⟨d, u * 4 + 2, none⟩ (.int .i64 y.born))) (p := ⟨d, u * 4 + 3, none⟩) (x := .int .i64 y.many) (q := ⟨d, v * 4, none⟩) y4_2
      obtain ⟨_, y5_0⟩ := cell?_setCell_some (w := w5) (p := ⟨d, u * 4, none⟩) (x := .int .i64 y.flow) (q := ⟨d, v * 4 + 1, none⟩) q1
      obtain ⟨_, y5_1⟩ := cell?_setCell_some (w := (w5.setCell ⟨d, u * 4, none⟩ (.int .i64 y.flow))) (p := ⟨d, u * 4 + 1, none⟩) (x := .int .i64 y.hop) (q := ⟨d, v * 4 + 1, none⟩) y5_0
      obtain ⟨_, y5_2⟩ := cell?_setCell_some (w := ((w5.setCell ⟨d, u * 4, none⟩ (.int .i64 y.flow)).setCell ⟨d, u * 4 + 1, none⟩ (.int .i64 y.hop))) (p := ⟨d, u * 4 + 2, none⟩) (x := .int .i64 y.born) (q := ⟨d, v * 4 + 1, none⟩) y5_1
      obtain ⟨_, y5_3⟩ := cell?_setCell_some (w := (((w5.setCell ⟨d, u * 4, none⟩ (.int .i64 y.flow)).setCell ⟨d, u * 4 + 1, none⟩ (.int .i64 y.hop)).setCell ⟨d, u * 4 + 2, none⟩ (.int .i64 y.born))) (p := ⟨d, u * 4 + 3, none⟩) (x := .int .i64 y.many) (q := ⟨d, v * 4 + 1, none⟩) y5_2
      obtain ⟨_, y5_4⟩ := cell?_setCell_some (w := ((((w5.setCell ⟨d, u * 4, none⟩ (.int .i64 y.flow)).setCell ⟨d, u * 4 + 1, none⟩ (.int .i64 y.hop)).setCell ⟨d, u * 4 + 2, none⟩ (.int .i64 y.born)).setCell ⟨d, u * 4 + 3, none⟩ (.int .i64 y.many))) (p := ⟨d, v * 4, none⟩) (x := .int .i64 x.flow) (q := ⟨d, v * 4 + 1, none⟩) y5_3
      obtain ⟨_, y6_0⟩ := cell?_setCell_some (w := w5) (p := ⟨d, u * 4, none⟩) (x := .int .i64 y.flow) (q := ⟨d, v * 4 + 2, none⟩) q2
      obtain ⟨_, y6_1⟩ := cell?_setCell_some (w := (w5.setCell ⟨d, u * 4, none⟩ (.int .i64 y.flow))) (p := ⟨d, u * 4 + 1, none⟩) (x := .int .i64 y.hop) (q := ⟨d, v * 4 + 2, none⟩) y6_0
      obtain ⟨_, y6_2⟩ := cell?_setCell_some (w := ((w5.setCell ⟨d, u * 4, none⟩ (.int .i64 y.flow)).setCell ⟨d, u * 4 + 1, none⟩ (.int .i64 y.hop))) (p := ⟨d, u * 4 + 2, none⟩) (x := .int .i64 y.born) (q := ⟨d, v * 4 + 2, none⟩) y6_1
      obtain ⟨_, y6_3⟩ := cell?_setCell_some (w := (((w5.setCell ⟨d, u * 4, none⟩ (.int .i64 y.flow)).setCell ⟨d, u * 4 + 1, none⟩ (.int .i64 y.hop)).setCell ⟨d, u * 4 + 2, none⟩ (.int .i64 y.born))) (p := ⟨d, u * 4 + 3, none⟩) (x := .int .i64 y.many) (q := ⟨d, v * 4 + 2, none⟩) y6_2
      obtain ⟨_, y6_4⟩ := cell?_setCell_some (w := ((((w5.setCell ⟨d, u * 4, none⟩ (.int .i64 y.flow)).setCell ⟨d, u * 4 + 1, none⟩ (.int .i64 y.hop)).setCell ⟨d, u * 4 + 2, none⟩ (.int .i64 y.born)).setCell ⟨d, u * 4 + 3, none⟩ (.int .i64 y.many))) (p := ⟨d, v * 4, none⟩) (x := .int .i64 x.flow) (q := ⟨d, v * 4 + 2, none⟩) y6_3
      obtain ⟨_, y6_5⟩ := cell?_setCell_some (w := (((((w5.setCell ⟨d, u * 4, none⟩ (.int .i64 y.flow)).setCell ⟨d, u * 4 + 1, none⟩ (.int .i64 y.hop)).setCell ⟨d, u * 4 + 2, none⟩ (.int .i64 y.born)).setCell ⟨d, u * 4 + 3, none⟩ (.int .i64 y.many)).setCell ⟨d, v * 4, none⟩ (.int .i64 x.flow))) (p := ⟨d, v * 4 + 1, none⟩) (x := .int .i64 x.hop) (q := ⟨d, v * 4 + 2, none⟩) y6_4
      obtain ⟨_, y7_0⟩ := cell?_setCell_some (w := w5) (p := ⟨d, u * 4, none⟩) (x := .int .i64 y.flow) (q := ⟨d, v * 4 + 3, none⟩) q3
      obtain ⟨_, y7_1⟩ := cell?_setCell_some (w := (w5.setCell ⟨d, u * 4, none⟩ (.int .i64 y.flow))) (p := ⟨d, u * 4 + 1, none⟩) (x := .int .i64 y.hop) (q := ⟨d, v * 4 + 3, none⟩) y7_0
      obtain ⟨_, y7_2⟩ := cell?_setCell_some (w := ((w5.setCell ⟨d, u * 4, none⟩ (.int .i64 y.flow)).setCell ⟨d, u * 4 + 1, none⟩ (.int .i64 y.hop))) (p := ⟨d, u * 4 + 2, none⟩) (x := .int .i64 y.born) (q := ⟨d, v * 4 + 3, none⟩) y7_1
      obtain ⟨_, y7_3⟩ := cell?_setCell_some (w := (((w5.setCell ⟨d, u * 4, none⟩ (.int .i64 y.flow)).setCell ⟨d, u * 4 + 1, none⟩ (.int .i64 y.hop)).setCell ⟨d, u * 4 + 2, none⟩ (.int .i64 y.born))) (p := ⟨d, u * 4 + 3, none⟩) (x := .int .i64 y.many) (q := ⟨d, v * 4 + 3, none⟩) y7_2
      obtain ⟨_, y7_4⟩ := cell?_setCell_some (w := ((((w5.setCell ⟨d, u * 4, none⟩ (.int .i64 y.flow)).setCell ⟨d, u * 4 + 1, none⟩ (.int .i64 y.hop)).setCell ⟨d, u * 4 + 2, none⟩ (.int .i64 y.born)).setCell ⟨d, u * 4 + 3, none⟩ (.int .i64 y.many))) (p := ⟨d, v * 4, none⟩) (x := .int .i64 x.flow) (q := ⟨d, v * 4 + 3, none⟩) y7_3
      obtain ⟨_, y7_5⟩ := cell?_setCell_some (w := (((((w5.setCell ⟨d, u * 4, none⟩ (.int .i64 y.flow)).setCell ⟨d, u * 4 + 1, none⟩ (.int .i64 y.hop)).setCell ⟨d, u * 4 + 2, none⟩ (.int .i64 y.born)).setCell ⟨d, u * 4 + 3, none⟩ (.int .i64 y.many)).setCell ⟨d, v * 4, none⟩ (.int .i64 x.flow))) (p := ⟨d, v * 4 + 1, none⟩) (x := .int .i64 x.hop) (q := ⟨d, v * 4 + 3, none⟩) y7_4
      obtain ⟨_, y7_6⟩ := cell?_setCell_some (w := ((((((w5.setCell ⟨d, u * 4, none⟩ (.int .i64 y.flow)).setCell ⟨d, u * 4 + 1, none⟩ (.int .i64 y.hop)).setCell ⟨d, u * 4 + 2, none⟩ (.int .i64 y.born)).setCell ⟨d, u * 4 + 3, none⟩ (.int .i64 y.many)).setCell ⟨d, v * 4, none⟩ (.int .i64 x.flow)).setCell ⟨d, v * 4 + 1, none⟩ (.int .i64 x.hop))) (p := ⟨d, v * 4 + 2, none⟩) (x := .int .i64 x.born) (q := ⟨d, v * 4 + 3, none⟩) y7_5
      clear y2_0 y3_0 y3_1 y4_0 y4_1 y4_2 y5_0 y5_1 y5_2 y5_3 y6_0 y6_1 y6_2 y6_3 y6_4 y7_0 y7_1 y7_2 y7_3 y7_4 y7_5
      clear hx hy hL
      go_upto_region 3 with fail
      go_region
      go_wp2_with fail
      have HE2 : Hid (P = (P1 ++ [x]) ++ P3 ∧ Q = (Q1 ++ [y]) ++ Q3 ∧ (P1 ++ [x]).length = i + 1 ∧ (Q1 ++ [y]).length = i + 1) := by
        have h1 := HE.out
        refine ⟨by rw [h1.1]; simp, by rw [h1.2.1]; simp, by rw [List.length_append, h1.2.2.1]; rfl, by rw [List.length_append, h1.2.2.2]; rfl⟩
      have e3 : X ++ (Q1 ++ y :: P3) ++ M ++ (P1 ++ x :: Q3) ++ Y = X ++ ((Q1 ++ [y]) ++ P3) ++ M ++ ((P1 ++ [x]) ++ Q3) ++ Y := by simp
      rw [e3] at HSW
      go_roundw
      case rel => exact ⟨P1 ++ [x], P3, Q1 ++ [y], Q3, i + 1, by go_num, by omega, HE2, HSW.out, HSB.out⟩
      case measure => simp [intOf]; omega
    · obtain rfl : i = n := by omega
      have HF : Hid (OwnP w5 d (X ++ Q ++ M ++ P ++ Y)) := by
        have h1 := HE.out; have h2 := HL.out; have h3 := HZ.out
        have e1 : P2 = [] := List.eq_nil_of_length_eq_zero (by rw [h1.1, List.length_append] at h2; omega)
        have e2 : Q2 = [] := List.eq_nil_of_length_eq_zero (by rw [h1.2.1, List.length_append] at h2; omega)
        subst e1
        subst e2
        rw [List.append_nil, List.append_nil] at h3
        show OwnP _ _ _
        rw [h1.1, h1.2.1, List.append_nil, List.append_nil]
        exact h3
      go_wp2_with fail
      go_end0
      exact ⟨rfl, HF.out, HB.out⟩
end
end Go.Proofs.Ytlbbhlkbhegegaa

/- Walks: rotate, the insertion sort of packets. Printed by gen_xc.py. -/
namespace Go.Proofs.Ytlbbhlkbhegegaa
open Go.RowKit

section
variable {n0 d : Nat}
set_option maxRecDepth 100000 in
set_option maxHeartbeats 8000000 in
theorem rotate_any (X U V Y : List MPkt) (N a m b cap : Nat) (f : Value) (w : World) (ho : OwnP w d (X ++ U ++ V ++ Y)) (hd : n0 ≤ d) (hN : (X ++ U ++ V ++ Y).length = N) (hn : N ≤ 1000000) (ha : X.length = a) (hu : a + U.length = m) (hv : m + V.length = b) (hu0 : 0 < U.length) (hv0 : 0 < V.length) :
    Calls Try.prog 135 #[.slice (some ⟨d, 0, none⟩) N cap, .int .i64 (a : Int), .int .i64 (m : Int), .int .i64 (b : Int), f] w fun e w' => e = .returned (.tuple #[]) ∧ OwnP w' d (X ++ V ++ U ++ Y) ∧ OnlyB d w w' := by
  have HO := Lib.hid ho
  have HBR : Hid (OnlyB d w w) := OnlyB.refl _ _
  have hbN : b ≤ N := by rw [← hN]; simp; omega
  have hma : a ≤ m := by omega
  have hmb : m ≤ b := by omega
  have HSW : Hid (∀ (X P M Q Y : List MPkt) (a b n : Nat) (W : World), OwnP W d (X ++ P ++ M ++ Q ++ Y) → (X ++ P ++ M ++ Q ++ Y).length = N → X.length = a → P.length = n → Q.length = n → a + n + M.length = b → Calls Try.prog 138 #[.slice (some ⟨d, 0, none⟩) N cap, .int .i64 (a : Int), .int .i64 (b : Int), .int .i64 (n : Int), f] W fun e w' => e = .returned (.tuple #[]) ∧ OwnP w' d (X ++ Q ++ M ++ P ++ Y) ∧ OnlyB d W w') := fun X P M Q Y a b n W h1 h2 h3 h4 h5 h6 => swapRange_any X P M Q Y N a b n cap f W h1 hd h2 hn h3 h4 h5 h6
  have HLU : Hid (U.length = m - a) := by show _ = _; omega
  have HLV : Hid (V.length = b - m) := by show _ = _; omega
  have HLX := Lib.hid ha
  have HN := Lib.hid hN
  have hi0 : a < m := by omega
  have hj0 : m < b := by omega
  clear ho hN ha hu hv hu0 hv0
  have c1 : ((m : Int) - (a : Int)) = ((m - a : Nat) : Int) := by omega
  have c2 : ((b : Int) - (m : Int)) = ((b - m : Nat) : Int) := by omega
  go_enter Try.func135, Try.ntmps135
  go_wp2_with fail
  clear c1 c2
  go_loopw [10, 11] (fun vi vj wr => ∃ (X1 P Q Y1 : List MPkt) (i j : Nat), vi = .int .i64 i ∧ vj = .int .i64 j ∧ (0 < i ∧ 0 < j ∧ i ≤ m ∧ m + j ≤ N) ∧ Hid (P.length = i ∧ Q.length = j ∧ X1.length + i = m ∧ X1 ++ Q ++ P ++ Y1 = X ++ V ++ U ++ Y ∧ (X1 ++ P ++ Q ++ Y1).length = N) ∧ Hid (OwnP wr d (X1 ++ P ++ Q ++ Y1)) ∧ Hid (OnlyB d w wr)) (fun vi vj _ => (intOf vi).toNat + (intOf vj).toNat)
  case atStart => exact ⟨X, U, V, Y, m - a, b - m, rfl, rfl, by omega, ⟨HLU.out, HLV.out, by have := HLX.out; omega, rfl, HN.out⟩, HO.out, HBR.out⟩
  case round =>
    clear HO HBR HLU HLV HLX HN
    obtain ⟨X1, P, Q, Y1, i, j, rfl, rfl, hij, HE, HZ, HB⟩ := hrel
    rename World => wr
    obtain ⟨hi, hj, him, hjN⟩ := hij
    rcases Nat.lt_trichotomy i j with hlt | heq | hgt
    · -- Q = Q1 ++ Q2
      obtain ⟨Q1, Q2, rfl, hq1, hq2⟩ : ∃ Q1 Q2, Q = Q1 ++ Q2 ∧ Q1.length = j - i ∧ Q2.length = i := ⟨Q.take (j - i), Q.drop (j - i), (List.take_append_drop _ _).symm, by rw [List.length_take, HE.out.2.1]; omega, by rw [List.length_drop, HE.out.2.1]; omega⟩
      have e1 : X1 ++ P ++ (Q1 ++ Q2) ++ Y1 = X1 ++ P ++ Q1 ++ Q2 ++ Y1 := by simp
      have hz := HZ.out
      have hee := HE.out
      rw [e1] at hz hee
      have HC : Hid (Calls Try.prog 138 #[.slice (some ⟨d, 0, none⟩) N cap, .int .i64 ((m - i : Nat) : Int), .int .i64 ((m + j - i : Nat) : Int), .int .i64 (i : Int), f] wr fun e w' => e = .returned (.tuple #[]) ∧ OwnP w' d (X1 ++ Q2 ++ Q1 ++ P ++ Y1) ∧ OnlyB d wr w') := HSW.out X1 P Q1 Q2 Y1 (m - i) (m + j - i) i wr hz hee.2.2.2.2 (by omega) hee.1 hq2 (by omega)
      have HE2 : Hid (Q2.length = i ∧ Q1.length = j - i ∧ X1.length + i = m ∧ X1 ++ Q1 ++ Q2 ++ (P ++ Y1) = X ++ V ++ U ++ Y ∧ (X1 ++ Q2 ++ Q1 ++ (P ++ Y1)).length = N) := by
        refine ⟨hq2, hq1, hee.2.2.1, ?_, ?_⟩
        · rw [← hee.2.2.2.1]; simp
        · rw [← hee.2.2.2.2]; simp; omega
      have e2 : X1 ++ Q2 ++ Q1 ++ P ++ Y1 = X1 ++ Q2 ++ Q1 ++ (P ++ Y1) := by simp
      rw [e2] at HC
      have g1 : ((i : Int) != (j : Int)) = true := by rw [bne_iff_ne]; omega
      have g2 : decide ((j : Int) < (i : Int)) = false := decide_eq_false (by omega)
      have c1 : ((m : Int) - (i : Int)) = ((m - i : Nat) : Int) := by omega
      have c2 : ((m : Int) + (j : Int) - (i : Int)) = ((m + j - i : Nat) : Int) := by omega
      have c3 : ((j : Int) - (i : Int)) = ((j - i : Nat) : Int) := by omega
      clear e1 e2 hz hee hq1 hq2
      go_wp2_with (go_at_call 138; refine HC.out.mono ?_; rintro e w6 ⟨rfl, ho6, hb6⟩; have HO6 := Lib.hid ho6; have HB6 : Hid (OnlyB d w w6) := HB.out.trans hb6; clear ho6 hb6)
      go_roundw
      case rel => exact ⟨X1, Q2, Q1, P ++ Y1, i, j - i, rfl, rfl, by omega, HE2, HO6, HB6⟩
      case measure => simp [intOf]; omega
    · subst heq
      have e1 : X1 ++ P ++ Q ++ Y1 = X1 ++ P ++ [] ++ Q ++ Y1 := by simp
      have hz := HZ.out
      have hee := HE.out
      rw [e1] at hz
      have HC : Hid (Calls Try.prog 138 #[.slice (some ⟨d, 0, none⟩) N cap, .int .i64 ((m - i : Nat) : Int), .int .i64 (m : Int), .int .i64 (i : Int), f] wr fun e w' => e = .returned (.tuple #[]) ∧ OwnP w' d (X1 ++ Q ++ [] ++ P ++ Y1) ∧ OnlyB d wr w') := HSW.out X1 P [] Q Y1 (m - i) m i wr hz (by rw [← e1]; exact hee.2.2.2.2) (by omega) hee.1 hee.2.1 (by simp; omega)
      have e2 : X1 ++ Q ++ [] ++ P ++ Y1 = X ++ V ++ U ++ Y := by rw [← hee.2.2.2.1]; simp
      rw [e2] at HC
      have g1 : ((i : Int) != (i : Int)) = false := by simp
      have c1 : ((m : Int) - (i : Int)) = ((m - i : Nat) : Int) := by omega
      clear e1 e2 hz hee
      go_wp2_with (go_at_call 138; refine HC.out.mono ?_; rintro e w6 ⟨rfl, ho6, hb6⟩; have HO6 := Lib.hid ho6; have HB6 : Hid (OnlyB d w w6) := HB.out.trans hb6; clear ho6 hb6)
      go_end0
      exact ⟨rfl, HO6.out, HB6.out⟩
    · obtain ⟨P1, P2, rfl, hp1, hp2⟩ : ∃ P1 P2, P = P1 ++ P2 ∧ P1.length = j ∧ P2.length = i - j := ⟨P.take j, P.drop j, (List.take_append_drop _ _).symm, by rw [List.length_take, HE.out.1]; omega, by rw [List.length_drop, HE.out.1]⟩
      have e1 : X1 ++ (P1 ++ P2) ++ Q ++ Y1 = X1 ++ P1 ++ P2 ++ Q ++ Y1 := by simp
      have hz := HZ.out
      have hee := HE.out
      rw [e1] at hz hee
      have HC : Hid (Calls Try.prog 138 #[.slice (some ⟨d, 0, none⟩) N cap, .int .i64 ((m - i : Nat) : Int), .int .i64 (m : Int), .int .i64 (j : Int), f] wr fun e w' => e = .returned (.tuple #[]) ∧ OwnP w' d (X1 ++ Q ++ P2 ++ P1 ++ Y1) ∧ OnlyB d wr w') := HSW.out X1 P1 P2 Q Y1 (m - i) m j wr hz hee.2.2.2.2 (by omega) hp1 hee.2.1 (by omega)
      have HE2 : Hid (P2.length = i - j ∧ P1.length = j ∧ (X1 ++ Q).length + (i - j) = m ∧ (X1 ++ Q) ++ P1 ++ P2 ++ Y1 = X ++ V ++ U ++ Y ∧ ((X1 ++ Q) ++ P2 ++ P1 ++ Y1).length = N) := by
        refine ⟨hp2, hp1, by rw [List.length_append, hee.2.1]; omega, ?_, ?_⟩
        · rw [← hee.2.2.2.1]; simp
        · rw [← hee.2.2.2.2]; simp; omega
      have g1 : ((i : Int) != (j : Int)) = true := by rw [bne_iff_ne]; omega
      have g2 : decide ((j : Int) < (i : Int)) = true := decide_eq_true (by omega)
      have c1 : ((m : Int) - (i : Int)) = ((m - i : Nat) : Int) := by omega
      have c3 : ((i : Int) - (j : Int)) = ((i - j : Nat) : Int) := by omega
      clear e1 hz hee hp1 hp2
      go_wp2_with (go_at_call 138; refine HC.out.mono ?_; rintro e w6 ⟨rfl, ho6, hb6⟩; have HO6 := Lib.hid ho6; have HB6 : Hid (OnlyB d w w6) := HB.out.trans hb6; clear ho6 hb6)
      go_roundw
      case rel => exact ⟨X1 ++ Q, P2, P1, Y1, i - j, j, rfl, rfl, by omega, HE2, HO6, HB6⟩
      case measure => simp [intOf]; omega
end
/-! ### the plain insertion -/
def SrtP (A : List MPkt) (i : Nat) (L : List MPkt) : Prop := StQ A L ∧ SrtF (L.take i)
def InsP (A : List MPkt) (i j : Nat) (L : List MPkt) : Prop := StQ A L ∧ ∃ C B R x, L = C ++ x :: (B ++ R) ∧ C.length = j ∧ j + B.length = i ∧ SrtF (C ++ B) ∧ ∀ b ∈ B, LeF x b
theorem SrtP.len {A L : List MPkt} {i : Nat} (h : SrtP A i L) : L.length = A.length := h.1.len
theorem InsP.len {A L : List MPkt} {i j : Nat} (h : InsP A i j L) : L.length = A.length := h.1.len
theorem SrtP.one (A : List MPkt) : SrtP A 1 A := ⟨.refl _, by
  rcases A with _ | ⟨a, l⟩
  · exact srt_nil
  · unfold SrtF; simp⟩
theorem SrtP.start {A L : List MPkt} {i : Nat} (h : SrtP A i L) (hi : i < L.length) : InsP A i i L := by
  refine ⟨h.1, L.take i, [], L.drop (i + 1), L[i], ?_, ?_, by simp, by rw [List.append_nil]; exact h.2, fun b hb => by cases hb⟩
  · rw [List.nil_append, List.getElem_cons_drop, List.take_append_drop]
  · rw [List.length_take]; omega
theorem InsP.fin {A L C B R : List MPkt} {i j : Nat} {x : MPkt} (hp : StQ A L) (hL : L = C ++ x :: (B ++ R)) (hA : C.length = j) (hB : j + B.length = i) (hs : SrtF (C ++ B)) (hx : ∀ b ∈ B, LeF x b) (ha : ∀ a ∈ C, LeF a x) : SrtP A (i + 1) L := by
  refine ⟨hp, ?_⟩
  have h1 : L.take (i + 1) = C ++ x :: B := by
    have h2 : L = (C ++ x :: B) ++ R := by rw [hL]; simp
    rw [h2]
    exact List.take_left' (by simp; omega)
  rw [h1, srt_app]
  rw [srt_app] at hs
  refine ⟨hs.1, List.pairwise_cons.2 ⟨hx, hs.2.1⟩, fun a haA b hb => ?_⟩
  rcases List.mem_cons.1 hb with rfl | hb
  · exact ha a haA
  · exact hs.2.2 a haA b hb
theorem InsP.zero {A L : List MPkt} {i : Nat} (h : InsP A i 0 L) : SrtP A (i + 1) L := by
  obtain ⟨hp, C, B, R, x, hL, hA, hB, hs, hx⟩ := h
  obtain rfl : C = [] := List.eq_nil_of_length_eq_zero hA
  exact InsP.fin hp hL hA hB hs hx fun a ha => by cases ha
theorem InsP.step {A L : List MPkt} {i j : Nat} (h : InsP A i j L) (hj : 0 < j) :
    ∃ x y, L[j]? = some x ∧ L[j - 1]? = some y ∧ (x.flow < y.flow → InsP A i (j - 1) ((L.set j y).set (j - 1) x)) ∧ (¬ x.flow < y.flow → SrtP A (i + 1) L) := by
  obtain ⟨hp, C, B, R, x, hL, hA, hB, hs, hx⟩ := h
  obtain ⟨C', y, rfl⟩ : ∃ C' y, C = C' ++ [y] := by
    rcases List.eq_nil_or_concat C with h | ⟨C', y, h⟩
    · subst h; simp at hA; omega
    · exact ⟨C', y, by rw [h]; simp⟩
  have hA' : C'.length + 1 = j := by simpa using hA
  have hj1 : j - 1 = C'.length := by omega
  have e0 : L = C' ++ y :: x :: (B ++ R) := by rw [hL]; simp
  have hsw : (L.set j y).set (j - 1) x = C' ++ x :: y :: (B ++ R) := by
    rw [e0, hj1, ← hA']
    simp
  refine ⟨x, y, ?_, ?_, fun hlt => ⟨?_, C', y :: B, R, x, ?_, hj1.symm, ?_, ?_, ?_⟩, fun hle => InsP.fin hp hL hA hB hs hx fun a ha => ?_⟩
  · rw [e0, ← hA', List.getElem?_append_right (by omega)]; simp
  · rw [e0, hj1, List.getElem?_append_right (by omega)]; simp
  · rw [hsw]
    refine StQ.trans hp ?_
    rw [e0]
    have h3 : StQ ([y] ++ [x]) ([x] ++ [y]) := StQ.swap fun u hu v hv e => by
      obtain rfl := List.mem_singleton.1 hu
      obtain rfl := List.mem_singleton.1 hv
      omega
    have h4 := ((StQ.refl C').app h3).app (StQ.refl (B ++ R))
    simpa [List.append_assoc] using h4
  · rw [hsw]; rfl
  · rw [List.length_cons]; omega
  · have : C' ++ y :: B = (C' ++ [y]) ++ B := by simp
    rw [this]; exact hs
  · intro b hb
    rcases List.mem_cons.1 hb with rfl | hb
    · exact Int.le_of_lt hlt
    · exact hx b hb
  · rcases List.mem_append.1 ha with ha | ha
    · have h0 := (srt_app.1 hs).1
      have h1 := (srt_app.1 h0).2.2 a ha y (by simp)
      unfold LeF at h1 ⊢
      omega
    · obtain rfl : a = y := by simpa using ha
      unfold LeF
      omega
theorem SrtP.all {A L : List MPkt} {i : Nat} (h : SrtP A i L) (hi : L.length ≤ i) : StQ A L ∧ SrtF L := ⟨h.1, by have := h.2; rwa [List.take_of_length_le hi] at this⟩
/-! ### where a merge is cut -/
/-- the cut: s elements of A stay in front, B1 goes before the rest -/
theorem cut_ok {A B : List MPkt} {s t : Nat} (hA : SrtF A) (hB : SrtF B) (hs : s ≤ A.length) (ht : t ≤ B.length)
    (h1 : s < A.length → 0 < t → (B.getD (t - 1) dPkt).flow < (A.getD s dPkt).flow) (h2 : 0 < s → t < B.length → LeF (A.getD (s - 1) dPkt) (B.getD t dPkt)) :
    (∀ x ∈ A.drop s, ∀ y ∈ B.take t, y.flow < x.flow) ∧ ∀ x ∈ A.take s, ∀ y ∈ B.drop t, LeF x y := by
  have le : ∀ {l : List MPkt}, SrtF l → ∀ i j, i ≤ j → j < l.length → LeF (l.getD i dPkt) (l.getD j dPkt) := fun {l} hl i j hij hj => by
    have ei : l.getD i dPkt = l[i]'(by omega) := by rw [List.getD_eq_getElem?_getD, List.getElem?_eq_getElem (by omega)]; rfl
    have ej : l.getD j dPkt = l[j] := by rw [List.getD_eq_getElem?_getD, List.getElem?_eq_getElem hj]; rfl
    rw [ei, ej]
    rcases Nat.lt_or_ge i j with h | h
    · exact (List.pairwise_iff_getElem.1 hl) i j (by omega) hj h
    · obtain rfl : i = j := by omega
      exact Int.le_refl _
  have at_ : ∀ {l : List MPkt} {i : Nat} {x : MPkt}, l[i]? = some x → l.getD i dPkt = x := fun {l i x} h => by rw [List.getD_eq_getElem?_getD, h]; rfl
  constructor
  · intro x hx y hy
    obtain ⟨i, hi⟩ := List.mem_iff_getElem?.1 hx
    obtain ⟨j, hj⟩ := List.mem_iff_getElem?.1 hy
    rw [List.getElem?_drop] at hi
    have hi' := lt_of_get hi
    have hjt := lt_of_get hj
    rw [List.length_take] at hjt
    rw [List.getElem?_take_of_lt (by omega)] at hj
    have k1 := h1 (by omega) (by omega)
    have k2 := le hA s (s + i) (by omega) hi'
    have k3 := le hB j (t - 1) (by omega) (by omega)
    rw [at_ hi] at k2
    rw [at_ hj] at k3
    unfold LeF at k2 k3
    omega
  · intro x hx y hy
    obtain ⟨i, hi⟩ := List.mem_iff_getElem?.1 hx
    obtain ⟨j, hj⟩ := List.mem_iff_getElem?.1 hy
    rw [List.getElem?_drop] at hj
    have hj' := lt_of_get hj
    have his := lt_of_get hi
    rw [List.length_take] at his
    rw [List.getElem?_take_of_lt (by omega)] at hi
    have k1 := h2 (by omega) (by omega)
    have k2 := le hA i (s - 1) (by omega) (by omega)
    have k3 := le hB t (t + j) (by omega) hj'
    rw [at_ hi] at k2
    rw [at_ hj] at k3
    unfold LeF at k1 k2 k3 ⊢
    omega
end Go.Proofs.Ytlbbhlkbhegegaa

/- Walks: the insertion sort of packets, one block. Printed by gen_xd.py. -/
namespace Go.Proofs.Ytlbbhlkbhegegaa
open Go.RowKit

theorem get_in {X L Y : List MPkt} {j a : Nat} {x : MPkt} (h : L[j]? = some x) (ha : X.length = a) : (X ++ L ++ Y)[a + j]? = some x := by
  have hj := lt_of_get h
  rw [List.append_assoc, List.getElem?_append_right (by omega), ha, Nat.add_sub_cancel_left, List.getElem?_append_left hj, h]
theorem set_in {X L Y : List MPkt} {j a : Nat} (hj : j < L.length) (ha : X.length = a) (y : MPkt) : (X ++ L ++ Y).set (a + j) y = X ++ L.set j y ++ Y := by
  rw [List.append_assoc, List.set_append, if_neg (by omega), ha, Nat.add_sub_cancel_left, List.set_append, if_pos hj, List.append_assoc]
section
variable {n0 d : Nat}
set_option maxRecDepth 100000 in
set_option maxHeartbeats 8000000 in
theorem insertP_any (X A Y : List MPkt) (N a b cap : Nat) (w : World) (ho : OwnP w d (X ++ A ++ Y)) (hd : n0 ≤ d) (hN : (X ++ A ++ Y).length = N) (hn : N ≤ 1000000) (ha : X.length = a) (hb : a + A.length = b) :
    Calls Try.prog 132 #[.slice (some ⟨d, 0, none⟩) N cap, .int .i64 (a : Int), .int .i64 (b : Int), .func (.func 113) #[] #[]] w fun e w' => e = .returned (.tuple #[]) ∧ (∃ L, (StQ A L ∧ SrtF L) ∧ OwnP w' d (X ++ L ++ Y)) ∧ OnlyB d w w' := by
  have HO := Lib.hid ho
  have HS0 : Hid (SrtP A 1 A) := SrtP.one A
  have HBR : Hid (OnlyB d w w) := OnlyB.refl _ _
  have HDW : Hid (n0 ≤ w.heap.size) := by have := OwnF.lt ho; show n0 ≤ _; omega
  have hbN : b ≤ N := by rw [← hN]; simp; omega
  have HLA : Hid (A.length = b - a) := by show _ = _; omega
  have hab : a ≤ b := by omega
  have HXA := Lib.hid ha
  clear ho hN ha hb
  go_enter Try.func132, Try.ntmps132
  go_wp2_with fail
  go_loopw [8] (fun vi wr => ∃ (i I : Nat) (L : List MPkt), vi = .int .i64 I ∧ 1 ≤ i ∧ I = a + i ∧ (I ≤ b ∨ i = 1) ∧ Hid (SrtP A i L) ∧ Hid (OwnP wr d (X ++ L ++ Y)) ∧ Hid (OnlyB d w wr)) (fun vi _ => b - (intOf vi).toNat)
  case atStart => exact ⟨1, a + 1, A, by go_num, by omega, rfl, .inr rfl, HS0, HO, HBR⟩
  case round =>
    obtain ⟨i, I, L, rfl, hi1, hI, hi2, HS, HW, HB⟩ := hrel
    rename World => wr
    clear HO HS0 HBR
    by_cases hlt : I < b
    · have HLT := Lib.hid hlt
      have HII := Lib.hid hI
      have HI1 := Lib.hid hi1
      have HP0 : Hid (InsP A i i L) := HS.out.start (by rw [HS.out.len, HLA.out]; omega)
      clear hi2 hI
      go_wp2_with fail
      go_loopw [9] (fun vj wz => ∃ (j J : Nat) (L : List MPkt), J ≤ I ∧ J = a + j ∧ vj = .int .i64 J ∧ Hid (OwnP wz d (X ++ L ++ Y)) ∧ Hid (OnlyB d w wz) ∧ Hid (InsP A i j L)) (fun vj _ => (intOf vj).toNat)
      case atStart => exact ⟨i, I, L, Nat.le_refl _, HII.out, rfl, HW, HB, HP0⟩
      case round =>
        clear HW HB HP0 HS
        obtain ⟨j, J, L, hji, hJ, rfl, HZ, HBZ, HP⟩ := hrel
        rename World => wz
        have HJJ := Lib.hid hJ
        by_cases hj : a < J
        · have hj0 : 0 < j := by omega
          clear hJ
          obtain ⟨x, y, hx0, hy0, hyes, hno⟩ := HP.out.step hj0
          have hx : (X ++ L ++ Y)[J]? = some x := by rw [HJJ.out]; exact get_in hx0 HXA.out
          have hy : (X ++ L ++ Y)[J - 1]? = some y := by rw [HJJ.out, show a + j - 1 = a + (j - 1) by omega]; exact get_in hy0 HXA.out
          have HLX := Lib.hid (And.intro (lt_of_get hx0) (lt_of_get hx))
          have HSET : Hid (((X ++ L ++ Y).set J y).set (J - 1) x = X ++ ((L.set j y).set (j - 1) x) ++ Y) := by
            show _ = _
            have := lt_of_get hx0
            rw [HJJ.out, show a + j - 1 = a + (j - 1) by omega, set_in this HXA.out, set_in (by rw [List.length_set]; omega) HXA.out]
          obtain ⟨G, hG⟩ : ∃ G, X ++ L ++ Y = G := ⟨_, rfl⟩
          rw [hG] at hx hy HZ HLX HSET
          have HGG := Lib.hid hG
          clear hG hx0 hy0
          obtain ⟨p0, p1, p2, p3⟩ := HZ.out.at_ hx
          obtain ⟨q0, q1, q2, q3⟩ := HZ.out.at_ hy
          have hdz := HZ.out.lt
          have m0 := BW.cell (B := wz.heap.size) hdz p0
          have m1 := BW.cell (B := wz.heap.size) hdz p1
          have m2 := BW.cell (B := wz.heap.size) hdz p2
          have m3 := BW.cell (B := wz.heap.size) hdz p3
          have m4 := BW.cell (B := wz.heap.size) hdz q0
          have m5 := BW.cell (B := wz.heap.size) hdz q1
          have m6 := BW.cell (B := wz.heap.size) hdz q2
          have m7 := BW.cell (B := wz.heap.size) hdz q3
          obtain ⟨v, hv⟩ : ∃ v, cmpV x.flow y.flow = v := ⟨_, rfl⟩
          have hvn := cmpV_neg x.flow y.flow
          rw [hv] at hvn
          have HC : Hid (∀ s : BW wz.heap.size wz, Calls Try.prog 113 #[pkV x, pkV y] s.1 fun e w' => e = .returned (.int .i64 v) ∧ Below s.1.heap.size s.1 w') := fun s => cmpp_any x y s.1 hv
          have hcast : ((J : Int) - 1) = ((J - 1 : Nat) : Int) := by omega
          have hJN : J < N := by omega
          have HXY := Lib.hid (And.intro hx hy)
          clear hv p0 p1 p2 p3 q0 q1 q2 q3 hx hy
          by_cases hneg : v < 0
          · have hd' : decide (v < 0) = true := decide_eq_true hneg
            have HP1 : Hid (InsP A i (j - 1) ((L.set j y).set (j - 1) x)) := hyes (hvn.1 hneg)
            clear hyes hno hvn hneg
            go_upto_region 4 with fail
            refine wp_region_below wz.heap.size wz (Below.refl _ _) (by kernel_rfl) (by kernel_rfl) ?_
            repeat (go_big_quiet_step ((go_at_call 113; exact quiet_below (Nat.le_refl _) (HC.out _))))
            refine wpQuiet_nil ?_
            clear m0 m1 m2 m3 m4 m5 m6 m7 HC
            intro s
            have HZ5 : Hid (OwnP s.1 d G) := HZ.out.below s.2 hdz
            have HB5 : Hid (OnlyB d w s.1) := HBZ.out.trans (OnlyB.of s.2)
            generalize s.1 = w5 at *
            have hx := HXY.out.1
            have hy := HXY.out.2
            have HSW : Hid (OwnP (put4 (put4 w5 d J y) d (J - 1) x).drew d (X ++ ((L.set j y).set (j - 1) x) ++ Y)) := by
              have h1 := (HZ5.out.put HLX.out.2 y).put (k := J - 1) (by rw [List.length_set]; have := HLX.out.2; omega) x
              rw [HSET.out] at h1
              exact h1.drew
            have HSB : Hid (OnlyB d w (put4 (put4 w5 d J y) d (J - 1) x).drew) := (OnlyB.put4 (OnlyB.put4 HB5.out hd J y) hd (J - 1) x).drew
            unfold put4 at HSW HSB
            obtain ⟨p0, p1, p2, p3⟩ := HZ5.out.at_ hx
            obtain ⟨q0, q1, q2, q3⟩ := HZ5.out.at_ hy
            have fa0 := HZ5.out.fz (J * 4)
            have fa1 := HZ5.out.fz (J * 4 + 1)
            have fa2 := HZ5.out.fz (J * 4 + 2)
            have fa3 := HZ5.out.fz (J * 4 + 3)
            have fb0 := HZ5.out.fz ((J - 1) * 4)
            have fb1 := HZ5.out.fz ((J - 1) * 4 + 1)
            have fb2 := HZ5.out.fz ((J - 1) * 4 + 2)
            have fb3 := HZ5.out.fz ((J - 1) * 4 + 3)
            obtain ⟨_, y1_0⟩ := cell?_setCell_some (w := w5) (p := ⟨d, J * 4, none⟩) (x := .int .i64 y.flow) (q := ⟨d, J * 4 + 1, none⟩) p1
            obtain ⟨_, y2_0⟩ := cell?_setCell_some (w := w5) (p := ⟨d, J * 4, none⟩) (x := .int .i64 y.flow) (q := ⟨d, J * 4 + 2, none⟩) p2
            obtain ⟨_, y2_1⟩ := cell?_setCell_some (w := (w5.setCell ⟨d, J * 4, none⟩ (.int .i64 y.flow))) (p := ⟨d, J * 4 + 1, none⟩) (x := .int .i64 y.hop) (q := ⟨d, J * 4 + 2, none⟩) y2_0
            obtain ⟨_, y3_0⟩ := cell?_setCell_some (w := w5) (p := ⟨d, J * 4, none⟩) (x := .int .i64 y.flow) (q := ⟨d, J * 4 + 3, none⟩) p3
            obtain ⟨_, y3_1⟩ := cell?_setCell_some (w := (w5.setCell ⟨d, J * 4, none⟩ (.int .i64 y.flow))) (p := ⟨d, J * 4 + 1, none⟩) (x := .int .i64 y.hop) (q := ⟨d, J * 4 + 3, none⟩) y3_0
            obtain ⟨_, y3_2⟩ := cell?_setCell_some (w := ((w5.setCell ⟨d, J * 4, none⟩ (.int .i64 y.flow)).setCell ⟨d, J * 4 + 1, none⟩ (.int .i64 y.hop))) (p := ⟨d, J * 4 + 2, none⟩) (x := .int .i64 y.born) (q := ⟨d, J * 4 + 3, none⟩) y3_1
            obtain ⟨_, y4_0⟩ := cell?_setCell_some (w := w5) (p := ⟨d, J * 4, none⟩) (x := .int .i64 y.flow) (q := ⟨d, (J - 1) * 4, none⟩) q0
            obtain ⟨_, y4_1⟩ := cell?_setCell_some (w := (w5.setCell ⟨d, J * 4, none⟩ (.int .i64 y.flow))) (p := ⟨d, J * 4 + 1, none⟩) (x := .int .i64 y.hop) (q := ⟨d, (J - 1) * 4, none⟩) y4_0
            obtain ⟨_, y4_2⟩ := cell?_setCell_some (w := ((w5.setCell ⟨d, J * 4, none⟩ (.int .i64 y.flow)).setCell ⟨d, J * 4 + 1, none⟩ (.int .i64 y.hop))) (p := ⟨d, J * 4 + 2, none⟩) (x := .int .i64 y.born) (q := ⟨d, (J - 1) * 4, none⟩) y4_1
            obtain ⟨_, y4_3⟩ := cell?_setCell_some (w := (((w5.setCell ⟨d, J * 4, none⟩ (.int .i64 y.flow)).setCell ⟨d, J * 4 + 1, none⟩ (.int .i64 y.hop)).setCell ⟨d, J * 4 + 2, none⟩ (.int .i64 y.born))) (p := ⟨d, J * 4 + 3, none⟩) (x := .int .i64 y.many) (q := ⟨d, (J - 1) * 4, none⟩) y4_2
            obtain ⟨_, y5_0⟩ := cell?_setCell_some (w := w5) (p := ⟨d, J * 4, none⟩) (x := .int .i64 y.flow) (q := ⟨d, (J - 1) * 4 + 1, none⟩) q1
            obtain ⟨_, y5_1⟩ := cell?_setCell_some (w := (w5.setCell ⟨d, J * 4, none⟩ (.int .i64 y.flow))) (p := ⟨d, J * 4 + 1, none⟩) (x := .int .i64 y.hop) (q := ⟨d, (J - 1) * 4 + 1, none⟩) y5_0
            obtain ⟨_, y5_2⟩ := cell?_setCell_some (w := ((w5.setCell ⟨d, J * 4, none⟩ (.int .i64 y.flow)).setCell ⟨d, J * 4 + 1, none⟩ (.int .i64 y.hop))) (p := ⟨d, J * 4 + 2, none⟩) (x := .int .i64 y.born) (q := ⟨d, (J - 1) * 4 + 1, none⟩) y5_1
            obtain ⟨_, y5_3⟩ := cell?_setCell_some (w := (((w5.setCell ⟨d, J * 4, none⟩ (.int .i64 y.flow)).setCell ⟨d, J * 4 + 1, none⟩ (.int .i64 y.hop)).setCell ⟨d, J * 4 + 2, none⟩ (.int .i64 y.born))) (p := ⟨d, J * 4 + 3, none⟩) (x := .int .i64 y.many) (q := ⟨d, (J - 1) * 4 + 1, none⟩) y5_2
            obtain ⟨_, y5_4⟩ := cell?_setCell_some (w := ((((w5.setCell ⟨d, J * 4, none⟩ (.int .i64 y.flow)).setCell ⟨d, J * 4 + 1, none⟩ (.int .i64 y.hop)).setCell ⟨d, J * 4 + 2, none⟩ (.int .i64 y.born)).setCell ⟨d, J * 4 + 3, none⟩ (.int .i64 y.many))) (p := ⟨d, (J - 1) * 4, none⟩) (x := .int .i64 x.flow) (q := ⟨d, (J - 1) * 4 + 1, none⟩) y5_3
            obtain ⟨_, y6_0⟩ := cell?_setCell_some (w := w5) (p := ⟨d, J * 4, none⟩) (x := .int .i64 y.flow) (q := ⟨d, (J - 1) * 4 + 2, none⟩) q2
            obtain ⟨_, y6_1⟩ := cell?_setCell_some (w := (w5.setCell ⟨d, J * 4, none⟩ (.int .i64 y.flow))) (p := ⟨d, J * 4 + 1, none⟩) (x := .int .i64 y.hop) (q := ⟨d, (J - 1) * 4 + 2, none⟩) y6_0
            obtain ⟨_, y6_2⟩ := cell?_setCell_some (w := ((w5.setCell ⟨d, J * 4, none⟩ (.int .i64 y.flow)).setCell ⟨d, J * 4 + 1, none⟩ (.int .i64 y.hop))) (p := ⟨d, J * 4 + 2, none⟩) (x := .int .i64 y.born) (q := ⟨d, (J - 1) * 4 + 2, none⟩) y6_1
            obtain ⟨_, y6_3⟩ := cell?_setCell_some (w := (((w5.setCell ⟨d, J * 4, none⟩ (.int .i64 y.flow)).setCell ⟨d, J * 4 + 1, none⟩ (.int .i64 y.hop)).setCell ⟨d, J * 4 + 2, none⟩ (.int .i64 y.born))) (p := ⟨d, J * 4 + 3, none⟩) (x := .int .i64 y.many) (q := ⟨d, (J - 1) * 4 + 2, none⟩) y6_2
            obtain ⟨_, y6_4⟩ := cell?_setCell_some (w := ((((w5.setCell ⟨d, J * 4, none⟩ (.int .i64 y.flow)).setCell ⟨d, J * 4 + 1, none⟩ (.int .i64 y.hop)).setCell ⟨d, J * 4 + 2, none⟩ (.int .i64 y.born)).setCell ⟨d, J * 4 + 3, none⟩ (.int .i64 y.many))) (p := ⟨d, (J - 1) * 4, none⟩) (x := .int .i64 x.flow) (q := ⟨d, (J - 1) * 4 + 2, none⟩) y6_3
            obtain ⟨_, y6_5⟩ := cell?_setCell_some (w := (((((w5.setCell ⟨d, J * 4, none⟩ (.int .i64 y.flow)).setCell ⟨d, J * 4 + 1, none⟩ (.int .i64 y.hop)).setCell ⟨d, J * 4 + 2, none⟩ (.int .i64 y.born)).setCell ⟨d, J * 4 + 3, none⟩ (.int .i64 y.many)).setCell ⟨d, (J - 1) * 4, none⟩ (.int .i64 x.flow))) (p := ⟨d, (J - 1) * 4 + 1, none⟩) (x := .int .i64 x.hop) (q := ⟨d, (J - 1) * 4 + 2, none⟩) y6_4
            obtain ⟨_, y7_0⟩ := cell?_setCell_some (w := w5) (p := ⟨d, J * 4, none⟩) (x := .int .i64 y.flow) (q := ⟨d, (J - 1) * 4 + 3, none⟩) q3
            obtain ⟨_, y7_1⟩ := cell?_setCell_some (w := (w5.setCell ⟨d, J * 4, none⟩ (.int .i64 y.flow))) (p := ⟨d, J * 4 + 1, none⟩) (x := .int .i64 y.hop) (q := ⟨d, (J - 1) * 4 + 3, none⟩) y7_0
            obtain ⟨_, y7_2⟩ := cell?_setCell_some (w := ((w5.setCell ⟨d, J * 4, none⟩ (.int .i64 y.flow)).setCell ⟨d, J * 4 + 1, none⟩ (.int .i64 y.hop))) (p := ⟨d, J * 4 + 2, none⟩) (x := .int .i64 y.born) (q := ⟨d, (J - 1) * 4 + 3, none⟩) y7_1
            obtain ⟨_, y7_3⟩ := cell?_setCell_some (w := (((w5.setCell ⟨d, J * 4, none⟩ (.int .i64 y.flow)).setCell ⟨d, J * 4 + 1, none⟩ (.int .i64 y.hop)).setCell ⟨d, J * 4 + 2, none⟩ (.int .i64 y.born))) (p := ⟨d, J * 4 + 3, none⟩) (x := .int .i64 y.many) (q := ⟨d, (J - 1) * 4 + 3, none⟩) y7_2
            obtain ⟨_, y7_4⟩ := cell?_setCell_some (w := ((((w5.setCell ⟨d, J * 4, none⟩ (.int .i64 y.flow)).setCell ⟨d, J * 4 + 1, none⟩ (.int .i64 y.hop)).setCell ⟨d, J * 4 + 2, none⟩ (.int .i64 y.born)).setCell ⟨d, J * 4 + 3, none⟩ (.int .i64 y.many))) (p := ⟨d, (J - 1) * 4, none⟩) (x := .int .i64 x.flow) (q := ⟨d, (J - 1) * 4 + 3, none⟩) y7_3
            obtain ⟨_, y7_5⟩ := cell?_setCell_some (w := (((((w5.setCell ⟨d, J * 4, none⟩ (.int .i64 y.flow)).setCell ⟨d, J * 4 + 1, none⟩ (.int .i64 y.hop)).setCell ⟨d, J * 4 + 2, none⟩ (.int .i64 y.born)).setCell ⟨d, J * 4 + 3, none⟩ (.int .i64 y.many)).setCell ⟨d, (J - 1) * 4, none⟩ (.int .i64 x.flow))) (p := ⟨d, (J - 1) * 4 + 1, none⟩) (x := .int .i64 x.hop) (q := ⟨d, (J - 1) * 4 + 3, none⟩) y7_4
            obtain ⟨_, y7_6⟩ := cell?_setCell_some (w := ((((((w5.setCell ⟨d, J * 4, none⟩ (.int .i64 y.flow)).setCell ⟨d, J * 4 + 1, none⟩ (.int .i64 y.hop)).setCell ⟨d, J * 4 + 2, none⟩ (.int .i64 y.born)).setCell ⟨d, J * 4 + 3, none⟩ (.int .i64 y.many)).setCell ⟨d, (J - 1) * 4, none⟩ (.int .i64 x.flow)).setCell ⟨d, (J - 1) * 4 + 1, none⟩ (.int .i64 x.hop))) (p := ⟨d, (J - 1) * 4 + 2, none⟩) (x := .int .i64 x.born) (q := ⟨d, (J - 1) * 4 + 3, none⟩) y7_5
            clear y2_0 y3_0 y3_1 y4_0 y4_1 y4_2 y5_0 y5_1 y5_2 y5_3 y6_0 y6_1 y6_2 y6_3 y6_4 y7_0 y7_1 y7_2 y7_3 y7_4 y7_5
            clear hx hy
            go_upto_region 6 with fail
            go_region
            go_wp2_with fail
            go_roundw
            case rel => exact ⟨j - 1, J - 1, (L.set j y).set (j - 1) x, by omega, by have := HJJ.out; omega, rfl, HSW.out, HSB.out, HP1⟩
            case measure => simp [intOf]; omega
          · have hd' : decide (v < 0) = false := decide_eq_false hneg
            have HP1 : Hid (SrtP A (i + 1) L) := hno (fun h => hneg (hvn.2 h))
            clear hyes hno hvn hneg
            go_upto_region 4 with fail
            refine wp_region_below wz.heap.size wz (Below.refl _ _) (by kernel_rfl) (by kernel_rfl) ?_
            repeat (go_big_quiet_step ((go_at_call 113; exact quiet_below (Nat.le_refl _) (HC.out _))))
            refine wpQuiet_nil ?_
            clear m0 m1 m2 m3 m4 m5 m6 m7 HC
            intro s
            have HZ5 : Hid (OwnP s.1 d (X ++ L ++ Y)) := by rw [HGG.out]; exact HZ.out.below s.2 hdz
            have HB5 : Hid (OnlyB d w s.1) := HBZ.out.trans (OnlyB.of s.2)
            generalize s.1 = w5 at *
            go_wp2_with fail
            go_roundw
            case rel => exact ⟨i + 1, I + 1, L, by go_num, by omega, by have := HII.out; omega, .inl HLT.out, HP1, HZ5, HB5⟩
            case measure => simp [intOf]; have := HLT.out; omega
        · obtain rfl : j = 0 := by omega
          obtain rfl : J = a := by omega
          have HFIN : Hid (SrtP A (i + 1) L) := HP.out.zero
          clear hJ
          go_upto_region 4 with fail
          go_quiet (fail)
          have HZ5 : Hid (OwnP (wz.drewN nq) d (X ++ L ++ Y)) := OwnF.drewN HZ.out nq
          have HB5 : Hid (OnlyB d w (wz.drewN nq)) := OnlyB.drewN' HBZ.out nq
          generalize wz.drewN nq = w5 at *
          go_wp2_with fail
          go_roundw
          case rel => exact ⟨i + 1, I + 1, L, by go_num, by omega, by have := HII.out; omega, .inl HLT.out, HFIN, HZ5, HB5⟩
          case measure => simp [intOf]; have := HLT.out; omega
    · have HE := Lib.hid (HS.out.all (by rw [HS.out.len, HLA.out]; omega))
      go_wp2_with fail
      go_end0
      exact ⟨rfl, ⟨L, HE.out, HW.out⟩, HB.out⟩
end
end Go.Proofs.Ytlbbhlkbhegegaa

/- Walks: symMerge of packets: one element before or behind a row. Printed by gen_xe.py. -/
namespace Go.Proofs.Ytlbbhlkbhegegaa
open Go.RowKit

theorem srt_le {l : List MPkt} (hl : SrtF l) {i j : Nat} {x y : MPkt} (hi : l[i]? = some x) (hj : l[j]? = some y) (h : i ≤ j) : LeF x y := by
  have hil := lt_of_get hi
  have hjl := lt_of_get hj
  rw [List.getElem?_eq_getElem hil] at hi
  rw [List.getElem?_eq_getElem hjl] at hj
  injection hi with hi
  injection hj with hj
  rcases Nat.lt_or_ge i j with h | h
  · rw [← hi, ← hj]
    exact (List.pairwise_iff_getElem.1 hl) i j hil hjl h
  · obtain rfl : i = j := by omega
    rw [← hi, ← hj]
    exact Int.le_refl _
theorem get_left {X A B Y : List MPkt} {j a : Nat} (hj : j < A.length) (ha : X.length = a) : (X ++ A ++ B ++ Y)[a + j]? = some A[j] := by
  have := get_in (X := X) (L := A) (Y := B ++ Y) (List.getElem?_eq_getElem hj) ha
  simpa using this
theorem get_right {X A B Y : List MPkt} {j m : Nat} (hj : j < B.length) (hm : X.length + A.length = m) : (X ++ A ++ B ++ Y)[m + j]? = some B[j] :=
  get_in (X := X ++ A) (L := B) (Y := Y) (List.getElem?_eq_getElem hj) (by rw [List.length_append]; exact hm)
section
variable {n0 d : Nat}
set_option maxRecDepth 100000 in
set_option maxHeartbeats 8000000 in
theorem merge_first (X A B Y : List MPkt) (N a m b cap : Nat) (w : World) (ho : OwnP w d (X ++ A ++ B ++ Y)) (hd : n0 ≤ d) (hN : (X ++ A ++ B ++ Y).length = N) (hn : N ≤ 1000000) (ha : X.length = a) (hm : a + A.length = m) (hb : m + B.length = b) (hA : SrtF A) (hB : SrtF B) (h1 : A.length = 1) :
    Calls Try.prog 133 #[.slice (some ⟨d, 0, none⟩) N cap, .int .i64 (a : Int), .int .i64 (m : Int), .int .i64 (b : Int), .func (.func 113) #[] #[]] w fun e w' => e = .returned (.tuple #[]) ∧ (∃ S, Mrg A B S ∧ OwnP w' d (X ++ S ++ Y)) ∧ OnlyB d w w' := by
  obtain ⟨z, rfl⟩ : ∃ z, A = [z] := by
    rcases A with _ | ⟨z, A⟩
    · simp at h1
    · rcases A with _ | ⟨_, _⟩
      · exact ⟨z, rfl⟩
      · simp at h1
  have hm' : a + 1 = m := hm
  have HBR : Hid (OnlyB d w w) := OnlyB.refl _ _
  have HDW : Hid (n0 ≤ w.heap.size) := by have := ho.lt; show n0 ≤ _; omega
  have hbN : b ≤ N := by rw [← hN]; simp; omega
  have HXL := Lib.hid ha
  have HBL : Hid (B.length = b - m) := by show _ = _; omega
  have HSB := Lib.hid hB
  have hz : (X ++ [z] ++ B ++ Y)[a]? = some z := by have := get_left (X := X) (A := [z]) (B := B) (Y := Y) (j := 0) (by simp) ha; simpa using this
  have HGB : Hid (∀ q (hq : q < B.length), (X ++ [z] ++ B ++ Y)[m + q]? = some B[q]) := fun q hq => get_right hq (by rw [ha]; exact hm')
  obtain ⟨G, hG⟩ : ∃ G, X ++ [z] ++ B ++ Y = G := ⟨_, rfl⟩
  rw [hG] at ho hz HGB
  have HGG := Lib.hid hG
  have HO := Lib.hid ho
  have HZA := Lib.hid hz
  have c0 : ((m : Int) - (a : Int)) = 1 := by omega
  have hmb : m ≤ b := by omega
  clear ho hN ha hm hb hG h1 hA hB hz
  go_enter Try.func133, Try.ntmps133
  go_wp2_with fail
  clear c0
  go_loopw [10, 11] (fun vi vj wr => ∃ i j : Nat, vi = .int .i64 i ∧ vj = .int .i64 j ∧ (m ≤ i ∧ i ≤ j ∧ j ≤ b) ∧ Hid ((∀ q y, m + q < i → B[q]? = some y → y.flow < z.flow) ∧ ∀ q y, j ≤ m + q → B[q]? = some y → LeF z y) ∧ Hid (OwnP wr d G) ∧ Hid (OnlyB d w wr)) (fun vi vj _ => (intOf vj).toNat - (intOf vi).toNat)
  case atStart => exact ⟨m, b, rfl, rfl, ⟨Nat.le_refl _, hmb, Nat.le_refl _⟩, ⟨fun q y h => by omega, fun q y h hq => by have := lt_of_get hq; rw [HBL.out] at this; omega⟩, HO, HBR⟩
  case round =>
    clear HO HBR
    obtain ⟨i, j, rfl, rfl, hij, HF, HZ, HB⟩ := hrel
    rename World => wr
    by_cases hlt : i < j
    · obtain ⟨h, hh⟩ : ∃ h, (i + j) / 2 = h := ⟨_, rfl⟩
      have hhb : i ≤ h ∧ h < j := by omega
      obtain ⟨x, hxq⟩ : ∃ x, B[h - m]? = some x := ⟨_, List.getElem?_eq_getElem (show h - m < B.length by rw [HBL.out]; omega)⟩
      have hx : G[h]? = some x := by
        have := HGB.out (h - m) (by rw [HBL.out]; omega)
        rw [show m + (h - m) = h by omega] at this
        rw [this, ← hxq, List.getElem?_eq_getElem]
      have HXQ := Lib.hid hxq
      have hy := HZA.out
      obtain ⟨y, hyz⟩ : ∃ y, y = z := ⟨_, rfl⟩
      rw [← hyz] at hy
      have HYZ := Lib.hid hyz
      have HHH : Hid (((i : Int) + (j : Int)) / 2 = (h : Int)) := by show _ = _; omega
      have hhN : h < N := by omega
      have haN : a < N := by omega
      clear hxq hyz
      obtain ⟨p0, p1, p2, p3⟩ := HZ.out.at_ hx
      obtain ⟨q0, q1, q2, q3⟩ := HZ.out.at_ hy
      have hdz := HZ.out.lt
      have m0 := BW.cell (B := wr.heap.size) hdz p0
      have m1 := BW.cell (B := wr.heap.size) hdz p1
      have m2 := BW.cell (B := wr.heap.size) hdz p2
      have m3 := BW.cell (B := wr.heap.size) hdz p3
      have m4 := BW.cell (B := wr.heap.size) hdz q0
      have m5 := BW.cell (B := wr.heap.size) hdz q1
      have m6 := BW.cell (B := wr.heap.size) hdz q2
      have m7 := BW.cell (B := wr.heap.size) hdz q3
      obtain ⟨v, hv⟩ : ∃ v, cmpV x.flow y.flow = v := ⟨_, rfl⟩
      have hvn := cmpV_neg x.flow y.flow
      rw [hv] at hvn
      have HVN := Lib.hid hvn
      have HC : Hid (∀ s : BW wr.heap.size wr, Calls Try.prog 113 #[pkV x, pkV y] s.1 fun e w' => e = .returned (.int .i64 v) ∧ Below s.1.heap.size s.1 w') := fun s => cmpp_any x y s.1 hv
      clear hv hvn p0 p1 p2 p3 q0 q1 q2 q3 hx hy
      rcases hneg : decide (v < 0)
      all_goals
        have HNEG := Lib.hid hneg
        go_upto_region 5 with fail
        refine wp_region_below wr.heap.size wr (Below.refl _ _) (by kernel_rfl) (by kernel_rfl) ?_
        repeat (go_big_quiet_step ((go_at_call 113; exact quiet_below (Nat.le_refl _) (HC.out _))))
        refine wpQuiet_nil ?_
        clear m0 m1 m2 m3 m4 m5 m6 m7 HC
        intro s
        have HZ5 : Hid (OwnP s.1 d G) := HZ.out.below s.2 hdz
        have HB5 : Hid (OnlyB d w s.1) := HB.out.trans (OnlyB.of s.2)
        generalize s.1 = w5 at *
        go_wp2_with fail
      · -- not before: j := h
        have HF2 : Hid ((∀ q y, m + q < i → B[q]? = some y → y.flow < z.flow) ∧ ∀ q y, h ≤ m + q → B[q]? = some y → LeF z y) := by
          refine ⟨HF.out.1, fun q u hq hu => ?_⟩
          have k1 := srt_le HSB.out HXQ.out hu (by omega)
          have k2 : ¬ x.flow < y.flow := fun hl => by have := HVN.out.2 hl; have := of_decide_eq_false HNEG.out; omega
          rw [HYZ.out] at k2
          unfold LeF at k1 ⊢
          omega
        (try rw [HHH.out])
        go_roundw
        case rel => exact ⟨i, h, rfl, rfl, by omega, HF2, HZ5, HB5⟩
        case measure => simp [intOf]; omega
      · have HF2 : Hid ((∀ q y, m + q < h + 1 → B[q]? = some y → y.flow < z.flow) ∧ ∀ q y, j ≤ m + q → B[q]? = some y → LeF z y) := by
          refine ⟨fun q u hq hu => ?_, HF.out.2⟩
          have k1 := srt_le HSB.out hu HXQ.out (by omega)
          have k2 : x.flow < y.flow := HVN.out.1 (of_decide_eq_true HNEG.out)
          rw [HYZ.out] at k2
          unfold LeF at k1
          omega
        (try rw [HHH.out])
        go_roundw
        case rel => exact ⟨h + 1, j, by go_num, rfl, by omega, HF2, HZ5, HB5⟩
        case measure => simp [intOf]; omega
    · obtain rfl : i = j := by omega
      have HCUT : Hid (B = B.take (i - m) ++ B.drop (i - m) ∧ (B.take (i - m)).length = i - m) := ⟨(List.take_append_drop _ _).symm, by rw [List.length_take, HBL.out]; omega⟩
      have HM1 : Hid (Mrg [z] B (B.take (i - m) ++ z :: B.drop (i - m))) := by
        have h1 : SrtF (B.take (i - m) ++ B.drop (i - m)) := by rw [List.take_append_drop]; exact HSB.out
        have := mrg_one (x := z) h1 (fun y hy => by
          obtain ⟨q, hq⟩ := List.mem_iff_getElem?.1 hy
          have hql := lt_of_get hq
          rw [List.length_take] at hql
          rw [List.getElem?_take_of_lt (by omega)] at hq
          exact HF.out.1 q y (by omega) hq) (fun y hy => by
          obtain ⟨q, hq⟩ := List.mem_iff_getElem?.1 hy
          rw [List.getElem?_drop] at hq
          exact HF.out.2 _ y (by omega) hq)
        rw [List.take_append_drop] at this
        exact this
      obtain ⟨B1, hB1⟩ : ∃ B1, B.take (i - m) = B1 := ⟨_, rfl⟩
      obtain ⟨B2, hB2⟩ : ∃ B2, B.drop (i - m) = B2 := ⟨_, rfl⟩
      rw [hB1, hB2] at HCUT HM1
      have HZ0 : Hid (OwnP wr d (X ++ [] ++ z :: B1 ++ B2 ++ Y)) := by
        have h := HZ.out
        rw [← HGG.out, HCUT.out.1] at h
        show OwnP _ _ _
        simpa using h
      have c1 : ((i : Int) - 1) = ((i - 1 : Nat) : Int) := by omega
      clear hB1 hB2
      go_wp2_with fail
      go_loopw [13] (fun vk wr => ∃ (k : Nat) (P R : List MPkt), vk = .int .i64 k ∧ (a ≤ k ∧ k ≤ i - 1) ∧ Hid (B1 = P ++ R ∧ a + P.length = k) ∧ Hid (OwnP wr d (X ++ P ++ z :: R ++ B2 ++ Y)) ∧ Hid (OnlyB d w wr)) (fun vk _ => i - (intOf vk).toNat)
      case atStart => exact ⟨a, [], B1, rfl, by omega, ⟨rfl, rfl⟩, HZ0, HB⟩
      case round =>
        clear HZ0 HB HZ
        obtain ⟨k, P, R, rfl, hk, HPR, HZ, HB⟩ := hrel
        rename World => w5
        by_cases hlt : k < i - 1
        · obtain ⟨y, R2, rfl⟩ : ∃ y R2, R = y :: R2 := by
            rcases R with _ | ⟨y, R2⟩
            · have h1 := HPR.out; have h2 := HCUT.out.2
              rw [h1.1, List.append_nil] at h2
              omega
            · exact ⟨y, R2, rfl⟩
          obtain ⟨x, hxz⟩ : ∃ x, x = z := ⟨_, rfl⟩
          have HXZ := Lib.hid hxz
          obtain ⟨k1, hk1⟩ : ∃ k1, k + 1 = k1 := ⟨_, rfl⟩
          have e0 : X ++ P ++ z :: y :: R2 ++ B2 ++ Y = (X ++ P) ++ x :: y :: (R2 ++ B2 ++ Y) := by rw [hxz]; simp
          have hkl : (X ++ P).length = k := by rw [List.length_append, HXL.out]; exact HPR.out.2
          have hx : ((X ++ P) ++ x :: y :: (R2 ++ B2 ++ Y))[k]? = some x := by rw [← hkl]; exact get_mid _ _ _
          have hy : ((X ++ P) ++ x :: y :: (R2 ++ B2 ++ Y))[k1]? = some y := by
            have e1 : (X ++ P) ++ x :: y :: (R2 ++ B2 ++ Y) = ((X ++ P) ++ [x]) ++ y :: (R2 ++ B2 ++ Y) := by simp
            have e2 : ((X ++ P) ++ [x]).length = k1 := by rw [List.length_append, hkl]; exact hk1
            rw [e1, ← e2]; exact get_mid _ _ _
          have HSET : Hid ((((X ++ P) ++ x :: y :: (R2 ++ B2 ++ Y)).set k y).set k1 x = X ++ (P ++ [y]) ++ z :: R2 ++ B2 ++ Y) := by
            show _ = _
            have e1 : (X ++ P) ++ y :: y :: (R2 ++ B2 ++ Y) = ((X ++ P) ++ [y]) ++ y :: (R2 ++ B2 ++ Y) := by simp
            have e2 : ((X ++ P) ++ [y]).length = k1 := by rw [List.length_append, hkl]; exact hk1
            rw [← hkl, set_mid, e1, ← e2, set_mid, hxz]
            simp
          rw [e0] at HZ
          obtain ⟨L, hL⟩ : ∃ L, (X ++ P) ++ x :: y :: (R2 ++ B2 ++ Y) = L := ⟨_, rfl⟩
          rw [hL] at HZ hx hy HSET
          have HLN : Hid (k < L.length ∧ k1 < L.length) := ⟨lt_of_get hx, lt_of_get hy⟩
          have HSW : Hid (OwnP (put4 (put4 w5 d k y) d k1 x).drew d (X ++ (P ++ [y]) ++ z :: R2 ++ B2 ++ Y)) := by
            have h1 := (HZ.out.put HLN.out.1 y).put (k := k1) (by rw [List.length_set]; exact HLN.out.2) x
            rw [HSET.out] at h1
            exact h1.drew
          have HSB : Hid (OnlyB d w (put4 (put4 w5 d k y) d k1 x).drew) := (OnlyB.put4 (OnlyB.put4 HB.out hd k y) hd k1 x).drew
          unfold put4 at HSW HSB
          have c2 : ((k : Int) + 1) = (k1 : Int) := by omega
          have hkN : k < N := by omega
          have hk1N : k1 < N := by omega
          have HK1 := Lib.hid hk1
          clear hk1 e0 hkl hL hxz
          obtain ⟨p0, p1, p2, p3⟩ := HZ.out.at_ hx
          obtain ⟨q0, q1, q2, q3⟩ := HZ.out.at_ hy
          have fa0 := HZ.out.fz (k * 4)
          have fa1 := HZ.out.fz (k * 4 + 1)
          have fa2 := HZ.out.fz (k * 4 + 2)
          have fa3 := HZ.out.fz (k * 4 + 3)
          have fb0 := HZ.out.fz (k1 * 4)
          have fb1 := HZ.out.fz (k1 * 4 + 1)
          have fb2 := HZ.out.fz (k1 * 4 + 2)
          have fb3 := HZ.out.fz (k1 * 4 + 3)
          obtain ⟨_, y1_0⟩ := cell?_setCell_some (w := w5) (p := ⟨d, k * 4, none⟩) (x := .int .i64 y.flow) (q := ⟨d, k * 4 + 1, none⟩) p1
          obtain ⟨_, y2_0⟩ := cell?_setCell_some (w := w5) (p := ⟨d, k * 4, none⟩) (x := .int .i64 y.flow) (q := ⟨d, k * 4 + 2, none⟩) p2
          obtain ⟨_, y2_1⟩ := cell?_setCell_some (w := (w5.setCell ⟨d, k * 4, none⟩ (.int .i64 y.flow))) (p := ⟨d, k * 4 + 1, none⟩) (x := .int .i64 y.hop) (q := ⟨d, k * 4 + 2, none⟩) y2_0
          obtain ⟨_, y3_0⟩ := cell?_setCell_some (w := w5) (p := ⟨d, k * 4, none⟩) (x := .int .i64 y.flow) (q := ⟨d, k * 4 + 3, none⟩) p3
          obtain ⟨_, y3_1⟩ := cell?_setCell_some (w := (w5.setCell ⟨d, k * 4, none⟩ (.int .i64 y.flow))) (p := ⟨d, k * 4 + 1, none⟩) (x := .int .i64 y.hop) (q := ⟨d, k * 4 + 3, none⟩) y3_0
          obtain ⟨_, y3_2⟩ := cell?_setCell_some (w := ((w5.setCell ⟨d, k * 4, none⟩ (.int .i64 y.flow)).setCell ⟨d, k * 4 + 1, none⟩ (.int .i64 y.hop))) (p := ⟨d, k * 4 + 2, none⟩) (x := .int .i64 y.born) (q := ⟨d, k * 4 + 3, none⟩) y3_1
          obtain ⟨_, y4_0⟩ := cell?_setCell_some (w := w5) (p := ⟨d, k * 4, none⟩) (x := .int .i64 y.flow) (q := ⟨d, k1 * 4, none⟩) q0
          obtain ⟨_, y4_1⟩ := cell?_setCell_some (w := (w5.setCell ⟨d, k * 4, none⟩ (.int .i64 y.flow))) (p := ⟨d, k * 4 + 1, none⟩) (x := .int .i64 y.hop) (q := ⟨d, k1 * 4, none⟩) y4_0
          obtain ⟨_, y4_2⟩ := cell?_setCell_some (w := ((w5.setCell ⟨d, k * 4, none⟩ (.int .i64 y.flow)).setCell ⟨d, k * 4 + 1, none⟩ (.int .i64 y.hop))) (p := ⟨d, k * 4 + 2, none⟩) (x := .int .i64 y.born) (q := ⟨d, k1 * 4, none⟩) y4_1
          obtain ⟨_, y4_3⟩ := cell?_setCell_some (w := (((w5.setCell ⟨d, k * 4, none⟩ (.int .i64 y.flow)).setCell ⟨d, k * 4 + 1, none⟩ (.int .i64 y.hop)).setCell ⟨d, k * 4 + 2, none⟩ (.int .i64 y.born))) (p := ⟨d, k * 4 + 3, none⟩) (x := .int .i64 y.many) (q := ⟨d, k1 * 4, none⟩) y4_2
          obtain ⟨_, y5_0⟩ := cell?_setCell_some (w := w5) (p := ⟨d, k * 4, none⟩) (x := .int .i64 y.flow) (q := ⟨d, k1 * 4 + 1, none⟩) q1
          obtain ⟨_, y5_1⟩ := cell?_setCell_some (w := (w5.setCell ⟨d, k * 4, none⟩ (.int .i64 y.flow))) (p := ⟨d, k * 4 + 1, none⟩) (x := .int .i64 y.hop) (q := ⟨d, k1 * 4 + 1, none⟩) y5_0
          obtain ⟨_, y5_2⟩ := cell?_setCell_some (w := ((w5.setCell ⟨d, k * 4, none⟩ (.int .i64 y.flow)).setCell ⟨d, k * 4 + 1, none⟩ (.int .i64 y.hop))) (p := ⟨d, k * 4 + 2, none⟩) (x := .int .i64 y.born) (q := ⟨d, k1 * 4 + 1, none⟩) y5_1
          obtain ⟨_, y5_3⟩ := cell?_setCell_some (w := (((w5.setCell ⟨d, k * 4, none⟩ (.int .i64 y.flow)).setCell ⟨d, k * 4 + 1, none⟩ (.int .i64 y.hop)).setCell ⟨d, k * 4 + 2, none⟩ (.int .i64 y.born))) (p := ⟨d, k * 4 + 3, none⟩) (x := .int .i64 y.many) (q := ⟨d, k1 * 4 + 1, none⟩) y5_2
          obtain ⟨_, y5_4⟩ := cell?_setCell_some (w := ((((w5.setCell ⟨d, k * 4, none⟩ (.int .i64 y.flow)).setCell ⟨d, k * 4 + 1, none⟩ (.int .i64 y.hop)).setCell ⟨d, k * 4 + 2, none⟩ (.int .i64 y.born)).setCell ⟨d, k * 4 + 3, none⟩ (.int .i64 y.many))) (p := ⟨d, k1 * 4, none⟩) (x := .int .i64 x.flow) (q := ⟨d, k1 * 4 + 1, none⟩) y5_3
          obtain ⟨_, y6_0⟩ := cell?_setCell_some (w := w5) (p := ⟨d, k * 4, none⟩) (x := .int .i64 y.flow) (q := ⟨d, k1 * 4 + 2, none⟩) q2
          obtain ⟨_, y6_1⟩ := cell?_setCell_some (w := (w5.setCell ⟨d, k * 4, none⟩ (.int .i64 y.flow))) (p := ⟨d, k * 4 + 1, none⟩) (x := .int .i64 y.hop) (q := ⟨d, k1 * 4 + 2, none⟩) y6_0
          obtain ⟨_, y6_2⟩ := cell?_setCell_some (w := ((w5.setCell ⟨d, k * 4, none⟩ (.int .i64 y.flow)).setCell ⟨d, k * 4 + 1, none⟩ (.int .i64 y.hop))) (p := ⟨d, k * 4 + 2, none⟩) (x := .int .i64 y.born) (q := ⟨d, k1 * 4 + 2, none⟩) y6_1
          obtain ⟨_, y6_3⟩ := cell?_setCell_some (w := (((w5.setCell ⟨d, k * 4, none⟩ (.int .i64 y.flow)).setCell ⟨d, k * 4 + 1, none⟩ (.int .i64 y.hop)).setCell ⟨d, k * 4 + 2, none⟩ (.int .i64 y.born))) (p := ⟨d, k * 4 + 3, none⟩) (x := .int .i64 y.many) (q := ⟨d, k1 * 4 + 2, none⟩) y6_2
          obtain ⟨_, y6_4⟩ := cell?_setCell_some (w := ((((w5.setCell ⟨d, k * 4, none⟩ (.int .i64 y.flow)).setCell ⟨d, k * 4 + 1, none⟩ (.int .i64 y.hop)).setCell ⟨d, k * 4 + 2, none⟩ (.int .i64 y.born)).setCell ⟨d, k * 4 + 3, none⟩ (.int .i64 y.many))) (p := ⟨d, k1 * 4, none⟩) (x := .int .i64 x.flow) (q := ⟨d, k1 * 4 + 2, none⟩) y6_3
          obtain ⟨_, y6_5⟩ := cell?_setCell_some (w := (((((w5.setCell ⟨d, k * 4, none⟩ (.int .i64 y.flow)).setCell ⟨d, k * 4 + 1, none⟩ (.int .i64 y.hop)).setCell ⟨d, k * 4 + 2, none⟩ (.int .i64 y.born)).setCell ⟨d, k * 4 + 3, none⟩ (.int .i64 y.many)).setCell ⟨d, k1 * 4, none⟩ (.int .i64 x.flow))) (p := ⟨d, k1 * 4 + 1, none⟩) (x := .int .i64 x.hop) (q := ⟨d, k1 * 4 + 2, none⟩) y6_4
          obtain ⟨_, y7_0⟩ := cell?_setCell_some (w := w5) (p := ⟨d, k * 4, none⟩) (x := .int .i64 y.flow) (q := ⟨d, k1 * 4 + 3, none⟩) q3
          obtain ⟨_, y7_1⟩ := cell?_setCell_some (w := (w5.setCell ⟨d, k * 4, none⟩ (.int .i64 y.flow))) (p := ⟨d, k * 4 + 1, none⟩) (x := .int .i64 y.hop) (q := ⟨d, k1 * 4 + 3, none⟩) y7_0
          obtain ⟨_, y7_2⟩ := cell?_setCell_some (w := ((w5.setCell ⟨d, k * 4, none⟩ (.int .i64 y.flow)).setCell ⟨d, k * 4 + 1, none⟩ (.int .i64 y.hop))) (p := ⟨d, k * 4 + 2, none⟩) (x := .int .i64 y.born) (q := ⟨d, k1 * 4 + 3, none⟩) y7_1
          obtain ⟨_, y7_3⟩ := cell?_setCell_some (w := (((w5.setCell ⟨d, k * 4, none⟩ (.int .i64 y.flow)).setCell ⟨d, k * 4 + 1, none⟩ (.int .i64 y.hop)).setCell ⟨d, k * 4 + 2, none⟩ (.int .i64 y.born))) (p := ⟨d, k * 4 + 3, none⟩) (x := .int .i64 y.many) (q := ⟨d, k1 * 4 + 3, none⟩) y7_2
          obtain ⟨_, y7_4⟩ := cell?_setCell_some (w := ((((w5.setCell ⟨d, k * 4, none⟩ (.int .i64 y.flow)).setCell ⟨d, k * 4 + 1, none⟩ (.int .i64 y.hop)).setCell ⟨d, k * 4 + 2, none⟩ (.int .i64 y.born)).setCell ⟨d, k * 4 + 3, none⟩ (.int .i64 y.many))) (p := ⟨d, k1 * 4, none⟩) (x := .int .i64 x.flow) (q := ⟨d, k1 * 4 + 3, none⟩) y7_3
          obtain ⟨_, y7_5⟩ := cell?_setCell_some (w := (((((w5.setCell ⟨d, k * 4, none⟩ (.int .i64 y.flow)).setCell ⟨d, k * 4 + 1, none⟩ (.int .i64 y.hop)).setCell ⟨d, k * 4 + 2, none⟩ (.int .i64 y.born)).setCell ⟨d, k * 4 + 3, none⟩ (.int .i64 y.many)).setCell ⟨d, k1 * 4, none⟩ (.int .i64 x.flow))) (p := ⟨d, k1 * 4 + 1, none⟩) (x := .int .i64 x.hop) (q := ⟨d, k1 * 4 + 3, none⟩) y7_4
          obtain ⟨_, y7_6⟩ := cell?_setCell_some (w := ((((((w5.setCell ⟨d, k * 4, none⟩ (.int .i64 y.flow)).setCell ⟨d, k * 4 + 1, none⟩ (.int .i64 y.hop)).setCell ⟨d, k * 4 + 2, none⟩ (.int .i64 y.born)).setCell ⟨d, k * 4 + 3, none⟩ (.int .i64 y.many)).setCell ⟨d, k1 * 4, none⟩ (.int .i64 x.flow)).setCell ⟨d, k1 * 4 + 1, none⟩ (.int .i64 x.hop))) (p := ⟨d, k1 * 4 + 2, none⟩) (x := .int .i64 x.born) (q := ⟨d, k1 * 4 + 3, none⟩) y7_5
          clear y2_0 y3_0 y3_1 y4_0 y4_1 y4_2 y5_0 y5_1 y5_2 y5_3 y6_0 y6_1 y6_2 y6_3 y6_4 y7_0 y7_1 y7_2 y7_3 y7_4 y7_5
          clear hx hy
          go_upto_region 11 with fail
          go_region
          go_wp2_with fail
          have HPR2 : Hid (B1 = (P ++ [y]) ++ R2 ∧ a + (P ++ [y]).length = k1) := ⟨by rw [HPR.out.1]; simp, by rw [List.length_append]; have := HPR.out.2; have := HK1.out; simp only [List.length_cons, List.length_nil]; omega⟩
          go_roundw
          case rel => exact ⟨k1, P ++ [y], R2, rfl, by have := HK1.out; omega, HPR2, HSW.out, HSB.out⟩
          case measure => simp [intOf]; have := HK1.out; omega
        · obtain rfl : k = i - 1 := by omega
          have HF3 : Hid (OwnP w5 d (X ++ (B1 ++ z :: B2) ++ Y)) := by
            have h1 := HPR.out; have h2 := HCUT.out.2; have h3 := HZ.out
            obtain rfl : R = [] := List.eq_nil_of_length_eq_zero (by rw [h1.1, List.length_append] at h2; omega)
            rw [List.append_nil] at h1
            show OwnP _ _ _
            rw [h1.1]
            simpa using h3
          go_wp2_with fail
          (try simp only [Exit.inBlock, Exit.then])
          refine bodyPost_ret (results_none rfl _ _ _) rfl ?_
          exact ⟨rfl, ⟨_, HM1.out, HF3.out⟩, HB.out⟩
end
end Go.Proofs.Ytlbbhlkbhegegaa

/- Walks: symMerge of packets: one element behind a row. Printed by gen_xf.py. -/
namespace Go.Proofs.Ytlbbhlkbhegegaa
open Go.RowKit

section
variable {n0 d : Nat}
set_option maxRecDepth 100000 in
set_option maxHeartbeats 8000000 in
theorem merge_last (X A B Y : List MPkt) (N a m b cap : Nat) (w : World) (ho : OwnP w d (X ++ A ++ B ++ Y)) (hd : n0 ≤ d) (hN : (X ++ A ++ B ++ Y).length = N) (hn : N ≤ 1000000) (ha : X.length = a) (hm : a + A.length = m) (hb : m + B.length = b) (hA : SrtF A) (hB : SrtF B) (h1 : B.length = 1) (h2 : 2 ≤ A.length) :
    Calls Try.prog 133 #[.slice (some ⟨d, 0, none⟩) N cap, .int .i64 (a : Int), .int .i64 (m : Int), .int .i64 (b : Int), .func (.func 113) #[] #[]] w fun e w' => e = .returned (.tuple #[]) ∧ (∃ S, Mrg A B S ∧ OwnP w' d (X ++ S ++ Y)) ∧ OnlyB d w w' := by
  obtain ⟨z, rfl⟩ : ∃ z, B = [z] := by
    rcases B with _ | ⟨z, B⟩
    · simp at h1
    · rcases B with _ | ⟨_, _⟩
      · exact ⟨z, rfl⟩
      · simp at h1
  have hb' : m + 1 = b := hb
  have HBR : Hid (OnlyB d w w) := OnlyB.refl _ _
  have HDW : Hid (n0 ≤ w.heap.size) := by have := ho.lt; show n0 ≤ _; omega
  have hbN : b ≤ N := by rw [← hN]; simp; omega
  have HXL := Lib.hid ha
  have HAL : Hid (A.length = m - a) := by show _ = _; omega
  have HSA := Lib.hid hA
  have hz : (X ++ A ++ [z] ++ Y)[m]? = some z := by have := get_right (X := X) (A := A) (B := [z]) (Y := Y) (j := 0) (m := m) (by simp) (by omega); simpa using this
  have HGA : Hid (∀ q (hq : q < A.length), (X ++ A ++ [z] ++ Y)[a + q]? = some A[q]) := fun q hq => get_left hq ha
  obtain ⟨G, hG⟩ : ∃ G, X ++ A ++ [z] ++ Y = G := ⟨_, rfl⟩
  rw [hG] at ho hz HGA
  have HGG := Lib.hid hG
  have HO := Lib.hid ho
  have HZA := Lib.hid hz
  have c0 : (((m : Int) - (a : Int)) == 1) = false := by rw [beq_eq_false_iff_ne]; omega
  have c1 : ((b : Int) - (m : Int)) = 1 := by omega
  have ham : a ≤ m := by omega
  clear ho hN ha hm hb hG h1 hA hB hz h2
  go_enter Try.func133, Try.ntmps133
  go_wp2_with fail
  clear c0 c1
  go_loopw [14, 15] (fun vi vj wr => ∃ i j : Nat, vi = .int .i64 i ∧ vj = .int .i64 j ∧ (a ≤ i ∧ i ≤ j ∧ j ≤ m) ∧ Hid ((∀ q y, a + q < i → A[q]? = some y → LeF y z) ∧ ∀ q y, j ≤ a + q → A[q]? = some y → z.flow < y.flow) ∧ Hid (OwnP wr d G) ∧ Hid (OnlyB d w wr)) (fun vi vj _ => (intOf vj).toNat - (intOf vi).toNat)
  case atStart => exact ⟨a, m, rfl, rfl, ⟨Nat.le_refl _, ham, Nat.le_refl _⟩, ⟨fun q y h => by omega, fun q y h hq => by have := lt_of_get hq; rw [HAL.out] at this; omega⟩, HO, HBR⟩
  case round =>
    clear HO HBR
    obtain ⟨i, j, rfl, rfl, hij, HF, HZ, HB⟩ := hrel
    rename World => wr
    by_cases hlt : i < j
    · obtain ⟨h, hh⟩ : ∃ h, (i + j) / 2 = h := ⟨_, rfl⟩
      have hhb : i ≤ h ∧ h < j := by omega
      obtain ⟨y, hyq⟩ : ∃ y, A[h - a]? = some y := ⟨_, List.getElem?_eq_getElem (show h - a < A.length by rw [HAL.out]; omega)⟩
      have hy : G[h]? = some y := by
        have := HGA.out (h - a) (by rw [HAL.out]; omega)
        rw [show a + (h - a) = h by omega] at this
        rw [this, ← hyq, List.getElem?_eq_getElem]
      have HYQ := Lib.hid hyq
      have hx := HZA.out
      obtain ⟨x, hxz⟩ : ∃ x, x = z := ⟨_, rfl⟩
      rw [← hxz] at hx
      have HXZ := Lib.hid hxz
      have HHH : Hid (((i : Int) + (j : Int)) / 2 = (h : Int)) := by show _ = _; omega
      have hhN : h < N := by omega
      have hmN : m < N := by omega
      clear hyq hxz
      obtain ⟨p0, p1, p2, p3⟩ := HZ.out.at_ hx
      obtain ⟨q0, q1, q2, q3⟩ := HZ.out.at_ hy
      have hdz := HZ.out.lt
      have m0 := BW.cell (B := wr.heap.size) hdz p0
      have m1 := BW.cell (B := wr.heap.size) hdz p1
      have m2 := BW.cell (B := wr.heap.size) hdz p2
      have m3 := BW.cell (B := wr.heap.size) hdz p3
      have m4 := BW.cell (B := wr.heap.size) hdz q0
      have m5 := BW.cell (B := wr.heap.size) hdz q1
      have m6 := BW.cell (B := wr.heap.size) hdz q2
      have m7 := BW.cell (B := wr.heap.size) hdz q3
      obtain ⟨v, hv⟩ : ∃ v, cmpV x.flow y.flow = v := ⟨_, rfl⟩
      have hvn := cmpV_neg x.flow y.flow
      rw [hv] at hvn
      have HVN := Lib.hid hvn
      have HC : Hid (∀ s : BW wr.heap.size wr, Calls Try.prog 113 #[pkV x, pkV y] s.1 fun e w' => e = .returned (.int .i64 v) ∧ Below s.1.heap.size s.1 w') := fun s => cmpp_any x y s.1 hv
      clear hv hvn p0 p1 p2 p3 q0 q1 q2 q3 hx hy
      rcases hneg : decide (v < 0)
      all_goals
        have HNEG := Lib.hid hneg
        go_upto_region 17 with fail
        refine wp_region_below wr.heap.size wr (Below.refl _ _) (by kernel_rfl) (by kernel_rfl) ?_
        repeat (go_big_quiet_step ((go_at_call 113; exact quiet_below (Nat.le_refl _) (HC.out _))))
        refine wpQuiet_nil ?_
        clear m0 m1 m2 m3 m4 m5 m6 m7 HC
        intro s
        have HZ5 : Hid (OwnP s.1 d G) := HZ.out.below s.2 hdz
        have HB5 : Hid (OnlyB d w s.1) := HB.out.trans (OnlyB.of s.2)
        generalize s.1 = w5 at *
        go_wp2_with fail
      · -- not less: i := h + 1
        have HF2 : Hid ((∀ q y, a + q < h + 1 → A[q]? = some y → LeF y z) ∧ ∀ q y, j ≤ a + q → A[q]? = some y → z.flow < y.flow) := by
          refine ⟨fun q u hq hu => ?_, HF.out.2⟩
          have k1 := srt_le HSA.out hu HYQ.out (by omega)
          have k2 : ¬ x.flow < y.flow := fun hl => by have := HVN.out.2 hl; have := of_decide_eq_false HNEG.out; omega
          rw [HXZ.out] at k2
          unfold LeF at k1 ⊢
          omega
        (try rw [HHH.out])
        go_roundw
        case rel => exact ⟨h + 1, j, by go_num, rfl, by omega, HF2, HZ5, HB5⟩
        case measure => simp [intOf]; omega
      · have HF2 : Hid ((∀ q y, a + q < i → A[q]? = some y → LeF y z) ∧ ∀ q y, h ≤ a + q → A[q]? = some y → z.flow < y.flow) := by
          refine ⟨HF.out.1, fun q u hq hu => ?_⟩
          have k1 := srt_le HSA.out HYQ.out hu (by omega)
          have k2 : x.flow < y.flow := HVN.out.1 (of_decide_eq_true HNEG.out)
          rw [HXZ.out] at k2
          unfold LeF at k1
          omega
        (try rw [HHH.out])
        go_roundw
        case rel => exact ⟨i, h, rfl, rfl, by omega, HF2, HZ5, HB5⟩
        case measure => simp [intOf]; omega
    · obtain rfl : i = j := by omega
      have HCUT : Hid (A = A.take (i - a) ++ A.drop (i - a) ∧ (A.take (i - a)).length = i - a ∧ (A.drop (i - a)).length = m - i) := ⟨(List.take_append_drop _ _).symm, by rw [List.length_take, HAL.out]; omega, by rw [List.length_drop, HAL.out]; omega⟩
      have HM1 : Hid (Mrg A [z] (A.take (i - a) ++ z :: A.drop (i - a))) := by
        have h1 : SrtF (A.take (i - a) ++ A.drop (i - a)) := by rw [List.take_append_drop]; exact HSA.out
        have := mrg_last (x := z) h1 (fun y hy => by
          obtain ⟨q, hq⟩ := List.mem_iff_getElem?.1 hy
          have hql := lt_of_get hq
          rw [List.length_take] at hql
          rw [List.getElem?_take_of_lt (by omega)] at hq
          exact HF.out.1 q y (by omega) hq) (fun y hy => by
          obtain ⟨q, hq⟩ := List.mem_iff_getElem?.1 hy
          rw [List.getElem?_drop] at hq
          exact HF.out.2 _ y (by omega) hq)
        rw [List.take_append_drop] at this
        exact this
      obtain ⟨A1, hA1⟩ : ∃ A1, A.take (i - a) = A1 := ⟨_, rfl⟩
      obtain ⟨A2, hA2⟩ : ∃ A2, A.drop (i - a) = A2 := ⟨_, rfl⟩
      rw [hA1, hA2] at HCUT HM1
      have HZ0 : Hid (OwnP wr d (X ++ A1 ++ A2 ++ z :: [] ++ Y)) := by
        have h := HZ.out
        rw [← HGG.out, HCUT.out.1] at h
        show OwnP _ _ _
        simpa using h
      clear hA1 hA2
      go_wp2_with fail
      go_loopw [17] (fun vk wr => ∃ (k : Nat) (P R : List MPkt), vk = .int .i64 k ∧ (i ≤ k ∧ k ≤ m) ∧ Hid (A2 = P ++ R ∧ i + P.length = k) ∧ Hid (OwnP wr d (X ++ A1 ++ P ++ z :: R ++ Y)) ∧ Hid (OnlyB d w wr)) (fun vk _ => (intOf vk).toNat)
      case atStart => exact ⟨m, A2, [], rfl, by omega, ⟨by simp, by have := HCUT.out.2.2; omega⟩, HZ0, HB⟩
      case round =>
        clear HZ0 HB HZ
        obtain ⟨k, P, R, rfl, hk, HPR, HZ, HB⟩ := hrel
        rename World => w5
        by_cases hlt : i < k
        · obtain ⟨P2, y, rfl⟩ : ∃ P2 y, P = P2 ++ [y] := by
            rcases List.eq_nil_or_concat P with h | ⟨P2, y, h⟩
            · have h2 := HPR.out.2
              rw [h] at h2
              simp at h2
              omega
            · exact ⟨P2, y, by rw [h]; simp⟩
          obtain ⟨x, hxz⟩ : ∃ x, x = z := ⟨_, rfl⟩
          have HXZ := Lib.hid hxz
          obtain ⟨k1, hk1⟩ : ∃ k1, k - 1 = k1 := ⟨_, rfl⟩
          have hkk : k1 + 1 = k := by omega
          have e0 : X ++ A1 ++ (P2 ++ [y]) ++ z :: R ++ Y = (X ++ A1 ++ P2) ++ y :: x :: (R ++ Y) := by rw [hxz]; simp
          have hkl : (X ++ A1 ++ P2).length = k1 := by
            have h1 := HPR.out.2; have h2 := HCUT.out.2.1
            rw [List.length_append] at h1
            rw [List.length_append, List.length_append, HXL.out, h2]
            simp only [List.length_cons, List.length_nil] at h1
            omega
          have hy : ((X ++ A1 ++ P2) ++ y :: x :: (R ++ Y))[k1]? = some y := by rw [← hkl]; exact get_mid _ _ _
          have e1 : (X ++ A1 ++ P2) ++ y :: x :: (R ++ Y) = ((X ++ A1 ++ P2) ++ [y]) ++ x :: (R ++ Y) := by simp
          have e2 : ∀ y : MPkt, ((X ++ A1 ++ P2) ++ [y]).length = k := fun y => by rw [List.length_append, hkl]; exact hkk
          have hx : ((X ++ A1 ++ P2) ++ y :: x :: (R ++ Y))[k]? = some x := by rw [e1, ← e2 y]; exact get_mid _ _ _
          have HSET : Hid ((((X ++ A1 ++ P2) ++ y :: x :: (R ++ Y)).set k y).set k1 x = X ++ A1 ++ P2 ++ z :: (y :: R) ++ Y) := by
            show _ = _
            have e3 : ((X ++ A1 ++ P2) ++ [y]) ++ y :: (R ++ Y) = (X ++ A1 ++ P2) ++ y :: (y :: (R ++ Y)) := by simp
            rw [e1, ← e2 y, set_mid, e3, ← hkl, set_mid, hxz]
            simp
          rw [e0] at HZ
          obtain ⟨L, hL⟩ : ∃ L, (X ++ A1 ++ P2) ++ y :: x :: (R ++ Y) = L := ⟨_, rfl⟩
          rw [hL] at HZ hx hy HSET
          have HLN : Hid (k < L.length ∧ k1 < L.length) := ⟨lt_of_get hx, lt_of_get hy⟩
          have HSW : Hid (OwnP (put4 (put4 w5 d k y) d k1 x).drew d (X ++ A1 ++ P2 ++ z :: (y :: R) ++ Y)) := by
            have h1 := (HZ.out.put HLN.out.1 y).put (k := k1) (by rw [List.length_set]; exact HLN.out.2) x
            rw [HSET.out] at h1
            exact h1.drew
          have HSB : Hid (OnlyB d w (put4 (put4 w5 d k y) d k1 x).drew) := (OnlyB.put4 (OnlyB.put4 HB.out hd k y) hd k1 x).drew
          unfold put4 at HSW HSB
          have c2 : ((k : Int) - 1) = (k1 : Int) := by omega
          have hkN : k < N := by omega
          have hk1N : k1 < N := by omega
          have HK1 := Lib.hid hkk
          clear hk1 e0 hkl hL hxz e1 e2 hkk
          obtain ⟨p0, p1, p2, p3⟩ := HZ.out.at_ hx
          obtain ⟨q0, q1, q2, q3⟩ := HZ.out.at_ hy
          have fa0 := HZ.out.fz (k * 4)
          have fa1 := HZ.out.fz (k * 4 + 1)
          have fa2 := HZ.out.fz (k * 4 + 2)
          have fa3 := HZ.out.fz (k * 4 + 3)
          have fb0 := HZ.out.fz (k1 * 4)
          have fb1 := HZ.out.fz (k1 * 4 + 1)
          have fb2 := HZ.out.fz (k1 * 4 + 2)
          have fb3 := HZ.out.fz (k1 * 4 + 3)
          obtain ⟨_, y1_0⟩ := cell?_setCell_some (w := w5) (p := ⟨d, k * 4, none⟩) (x := .int .i64 y.flow) (q := ⟨d, k * 4 + 1, none⟩) p1
          obtain ⟨_, y2_0⟩ := cell?_setCell_some (w := w5) (p := ⟨d, k * 4, none⟩) (x := .int .i64 y.flow) (q := ⟨d, k * 4 + 2, none⟩) p2
          obtain ⟨_, y2_1⟩ := cell?_setCell_some (w := (w5.setCell ⟨d, k * 4, none⟩ (.int .i64 y.flow))) (p := ⟨d, k * 4 + 1, none⟩) (x := .int .i64 y.hop) (q := ⟨d, k * 4 + 2, none⟩) y2_0
          obtain ⟨_, y3_0⟩ := cell?_setCell_some (w := w5) (p := ⟨d, k * 4, none⟩) (x := .int .i64 y.flow) (q := ⟨d, k * 4 + 3, none⟩) p3
          obtain ⟨_, y3_1⟩ := cell?_setCell_some (w := (w5.setCell ⟨d, k * 4, none⟩ (.int .i64 y.flow))) (p := ⟨d, k * 4 + 1, none⟩) (x := .int .i64 y.hop) (q := ⟨d, k * 4 + 3, none⟩) y3_0
          obtain ⟨_, y3_2⟩ := cell?_setCell_some (w := ((w5.setCell ⟨d, k * 4, none⟩ (.int .i64 y.flow)).setCell ⟨d, k * 4 + 1, none⟩ (.int .i64 y.hop))) (p := ⟨d, k * 4 + 2, none⟩) (x := .int .i64 y.born) (q := ⟨d, k * 4 + 3, none⟩) y3_1
          obtain ⟨_, y4_0⟩ := cell?_setCell_some (w := w5) (p := ⟨d, k * 4, none⟩) (x := .int .i64 y.flow) (q := ⟨d, k1 * 4, none⟩) q0
          obtain ⟨_, y4_1⟩ := cell?_setCell_some (w := (w5.setCell ⟨d, k * 4, none⟩ (.int .i64 y.flow))) (p := ⟨d, k * 4 + 1, none⟩) (x := .int .i64 y.hop) (q := ⟨d, k1 * 4, none⟩) y4_0
          obtain ⟨_, y4_2⟩ := cell?_setCell_some (w := ((w5.setCell ⟨d, k * 4, none⟩ (.int .i64 y.flow)).setCell ⟨d, k * 4 + 1, none⟩ (.int .i64 y.hop))) (p := ⟨d, k * 4 + 2, none⟩) (x := .int .i64 y.born) (q := ⟨d, k1 * 4, none⟩) y4_1
          obtain ⟨_, y4_3⟩ := cell?_setCell_some (w := (((w5.setCell ⟨d, k * 4, none⟩ (.int .i64 y.flow)).setCell ⟨d, k * 4 + 1, none⟩ (.int .i64 y.hop)).setCell ⟨d, k * 4 + 2, none⟩ (.int .i64 y.born))) (p := ⟨d, k * 4 + 3, none⟩) (x := .int .i64 y.many) (q := ⟨d, k1 * 4, none⟩) y4_2
          obtain ⟨_, y5_0⟩ := cell?_setCell_some (w := w5) (p := ⟨d, k * 4, none⟩) (x := .int .i64 y.flow) (q := ⟨d, k1 * 4 + 1, none⟩) q1
          obtain ⟨_, y5_1⟩ := cell?_setCell_some (w := (w5.setCell ⟨d, k * 4, none⟩ (.int .i64 y.flow))) (p := ⟨d, k * 4 + 1, none⟩) (x := .int .i64 y.hop) (q := ⟨d, k1 * 4 + 1, none⟩) y5_0
          obtain ⟨_, y5_2⟩ := cell?_setCell_some (w := ((w5.setCell ⟨d, k * 4, none⟩ (.int .i64 y.flow)).setCell ⟨d, k * 4 + 1, none⟩ (.int .i64 y.hop))) (p := ⟨d, k * 4 + 2, none⟩) (x := .int .i64 y.born) (q := ⟨d, k1 * 4 + 1, none⟩) y5_1
          obtain ⟨_, y5_3⟩ := cell?_setCell_some (w := (((w5.setCell ⟨d, k * 4, none⟩ (.int .i64 y.flow)).setCell ⟨d, k * 4 + 1, none⟩ (.int .i64 y.hop)).setCell ⟨d, k * 4 + 2, none⟩ (.int .i64 y.born))) (p := ⟨d, k * 4 + 3, none⟩) (x := .int .i64 y.many) (q := ⟨d, k1 * 4 + 1, none⟩) y5_2
          obtain ⟨_, y5_4⟩ := cell?_setCell_some (w := ((((w5.setCell ⟨d, k * 4, none⟩ (.int .i64 y.flow)).setCell ⟨d, k * 4 + 1, none⟩ (.int .i64 y.hop)).setCell ⟨d, k * 4 + 2, none⟩ (.int .i64 y.born)).setCell ⟨d, k * 4 + 3, none⟩ (.int .i64 y.many))) (p := ⟨d, k1 * 4, none⟩) (x := .int .i64 x.flow) (q := ⟨d, k1 * 4 + 1, none⟩) y5_3
          obtain ⟨_, y6_0⟩ := cell?_setCell_some (w := w5) (p := ⟨d, k * 4, none⟩) (x := .int .i64 y.flow) (q := ⟨d, k1 * 4 + 2, none⟩) q2
          obtain ⟨_, y6_1⟩ := cell?_setCell_some (w := (w5.setCell ⟨d, k * 4, none⟩ (.int .i64 y.flow))) (p := ⟨d, k * 4 + 1, none⟩) (x := .int .i64 y.hop) (q := ⟨d, k1 * 4 + 2, none⟩) y6_0
          obtain ⟨_, y6_2⟩ := cell?_setCell_some (w := ((w5.setCell ⟨d, k * 4, none⟩ (.int .i64 y.flow)).setCell ⟨d, k * 4 + 1, none⟩ (.int .i64 y.hop))) (p := ⟨d, k * 4 + 2, none⟩) (x := .int .i64 y.born) (q := ⟨d, k1 * 4 + 2, none⟩) y6_1
          obtain ⟨_, y6_3⟩ := cell?_setCell_some (w := (((w5.setCell ⟨d, k * 4, none⟩ (.int .i64 y.flow)).setCell ⟨d, k * 4 + 1, none⟩ (.int .i64 y.hop)).setCell ⟨d, k * 4 + 2, none⟩ (.int .i64 y.born))) (p := ⟨d, k * 4 + 3, none⟩) (x := .int .i64 y.many) (q := ⟨d, k1 * 4 + 2, none⟩) y6_2
          obtain ⟨_, y6_4⟩ := cell?_setCell_some (w := ((((w5.setCell ⟨d, k * 4, none⟩ (.int .i64 y.flow)).setCell ⟨d, k * 4 + 1, none⟩ (.int .i64 y.hop)).setCell ⟨d, k * 4 + 2, none⟩ (.int .i64 y.born)).setCell ⟨d, k * 4 + 3, none⟩ (.int .i64 y.many))) (p := ⟨d, k1 * 4, none⟩) (x := .int .i64 x.flow) (q := ⟨d, k1 * 4 + 2, none⟩) y6_3
          obtain ⟨_, y6_5⟩ := cell?_setCell_some (w := (((((w5.setCell ⟨d, k * 4, none⟩ (.int .i64 y.flow)).setCell ⟨d, k * 4 + 1, none⟩ (.int .i64 y.hop)).setCell ⟨d, k * 4 + 2, none⟩ (.int .i64 y.born)).setCell ⟨d, k * 4 + 3, none⟩ (.int .i64 y.many)).setCell ⟨d, k1 * 4, none⟩ (.int .i64 x.flow))) (p := ⟨d, k1 * 4 + 1, none⟩) (x := .int .i64 x.hop) (q := ⟨d, k1 * 4 + 2, none⟩) y6_4
          obtain ⟨_, y7_0⟩ := cell?_setCell_some (w := w5) (p := ⟨d, k * 4, none⟩) (x := .int .i64 y.flow) (q := ⟨d, k1 * 4 + 3, none⟩) q3
          obtain ⟨_, y7_1⟩ := cell?_setCell_some (w := (w5.setCell ⟨d, k * 4, none⟩ (.int .i64 y.flow))) (p := ⟨d, k * 4 + 1, none⟩) (x := .int .i64 y.hop) (q := ⟨d, k1 * 4 + 3, none⟩) y7_0
          obtain ⟨_, y7_2⟩ := cell?_setCell_some (w := ((w5.setCell ⟨d, k * 4, none⟩ (.int .i64 y.flow)).setCell ⟨d, k * 4 + 1, none⟩ (.int .i64 y.hop))) (p := ⟨d, k * 4 + 2, none⟩) (x := .int .i64 y.born) (q := ⟨d, k1 * 4 + 3, none⟩) y7_1
          obtain ⟨_, y7_3⟩ := cell?_setCell_some (w := (((w5.setCell ⟨d, k * 4, none⟩ (.int .i64 y.flow)).setCell ⟨d, k * 4 + 1, none⟩ (.int .i64 y.hop)).setCell ⟨d, k * 4 + 2, none⟩ (.int .i64 y.born))) (p := ⟨d, k * 4 + 3, none⟩) (x := .int .i64 y.many) (q := ⟨d, k1 * 4 + 3, none⟩) y7_2
          obtain ⟨_, y7_4⟩ := cell?_setCell_some (w := ((((w5.setCell ⟨d, k * 4, none⟩ (.int .i64 y.flow)).setCell ⟨d, k * 4 + 1, none⟩ (.int .i64 y.hop)).setCell ⟨d, k * 4 + 2, none⟩ (.int .i64 y.born)).setCell ⟨d, k * 4 + 3, none⟩ (.int .i64 y.many))) (p := ⟨d, k1 * 4, none⟩) (x := .int .i64 x.flow) (q := ⟨d, k1 * 4 + 3, none⟩) y7_3
          obtain ⟨_, y7_5⟩ := cell?_setCell_some (w := (((((w5.setCell ⟨d, k * 4, none⟩ (.int .i64 y.flow)).setCell ⟨d, k * 4 + 1, none⟩ (.int .i64 y.hop)).setCell ⟨d, k * 4 + 2, none⟩ (.int .i64 y.born)).setCell ⟨d, k * 4 + 3, none⟩ (.int .i64 y.many)).setCell ⟨d, k1 * 4, none⟩ (.int .i64 x.flow))) (p := ⟨d, k1 * 4 + 1, none⟩) (x := .int .i64 x.hop) (q := ⟨d, k1 * 4 + 3, none⟩) y7_4
          obtain ⟨_, y7_6⟩ := cell?_setCell_some (w := ((((((w5.setCell ⟨d, k * 4, none⟩ (.int .i64 y.flow)).setCell ⟨d, k * 4 + 1, none⟩ (.int .i64 y.hop)).setCell ⟨d, k * 4 + 2, none⟩ (.int .i64 y.born)).setCell ⟨d, k * 4 + 3, none⟩ (.int .i64 y.many)).setCell ⟨d, k1 * 4, none⟩ (.int .i64 x.flow)).setCell ⟨d, k1 * 4 + 1, none⟩ (.int .i64 x.hop))) (p := ⟨d, k1 * 4 + 2, none⟩) (x := .int .i64 x.born) (q := ⟨d, k1 * 4 + 3, none⟩) y7_5
          clear y2_0 y3_0 y3_1 y4_0 y4_1 y4_2 y5_0 y5_1 y5_2 y5_3 y6_0 y6_1 y6_2 y6_3 y6_4 y7_0 y7_1 y7_2 y7_3 y7_4 y7_5
          clear hx hy
          go_upto_region 23 with fail
          go_region
          go_wp2_with fail
          have HPR2 : Hid (A2 = P2 ++ (y :: R) ∧ i + P2.length = k1) := ⟨by rw [HPR.out.1]; simp, by have h1 := HPR.out.2; rw [List.length_append] at h1; simp only [List.length_cons, List.length_nil] at h1; have := HK1.out; omega⟩
          go_roundw
          case rel => exact ⟨k1, P2, y :: R, rfl, by have := HK1.out; omega, HPR2, HSW.out, HSB.out⟩
          case measure => simp [intOf]; have := HK1.out; omega
        · obtain rfl : k = i := by omega
          have HF3 : Hid (OwnP w5 d (X ++ (A1 ++ z :: A2) ++ Y)) := by
            have h1 := HPR.out; have h3 := HZ.out
            obtain rfl : P = [] := List.eq_nil_of_length_eq_zero (by have := h1.2; omega)
            rw [List.nil_append] at h1
            show OwnP _ _ _
            rw [h1.1]
            simpa using h3
          go_wp2_with fail
          (try simp only [Exit.inBlock, Exit.then])
          refine bodyPost_ret (results_none rfl _ _ _) rfl ?_
          exact ⟨rfl, ⟨_, HM1.out, HF3.out⟩, HB.out⟩
end
end Go.Proofs.Ytlbbhlkbhegegaa
