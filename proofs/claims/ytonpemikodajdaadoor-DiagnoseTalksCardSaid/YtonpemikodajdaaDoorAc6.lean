/- The reference's computer; walk: reply. Printed by ac6.py. -/
import Derived.Test.YtonpemikodajdaaDoorAc3
namespace Go.Proofs.YtonpemikodajdaaDoor
open Go.RowKit

structure RComp where
  ses : Int
  opn : Bool
  wts : Bool
  seed : Int
  seeds : Int
  wrong : Int
  til : Int
def rcCells (c : RComp) : Array Value := #[.int .i64 c.ses, .bool c.opn, .bool c.wts, .int .i64 c.seed, .int .i64 c.seeds, .int .i64 c.wrong, .int .i64 c.til]
def RCompA (w : World) (cb : Nat) (c : RComp) : Prop := w.heap[cb]? = some (.cells (rcCells c) 132 (0, 0))
def replyS (a : MAcc) (c : RComp) (r : MReq) : RComp × (Int × Int) :=
  if r.serv = 1 then
    (if r.val = 0 ∨ r.val = 1 then ({ c with ses := r.val, wts := false, opn := c.opn && r.val == 1 }, (0, 0)) else if r.val ≠ 2 then (c, (6, 0)) else if c.ses = 0 then (c, (4, 0)) else if c.opn = false then (c, (1, 0)) else ({ c with ses := 2 }, (0, 0)))
  else if r.serv = 2 ∨ r.serv = 3 then
    (if c.ses = 0 then (c, (4, 0)) else if r.at_ < c.til then (c, (3, 0)) else if r.serv = 2 then ({ c with seed := (c.seeds * 7919 + 13) % 65536, seeds := c.seeds + 1, wts := true }, (0, (c.seeds * 7919 + 13) % 65536))
    else if c.wts = false then (c, (5, 0)) else if r.val = keyS a c.seed then ({ c with wts := false, opn := true, wrong := 0 }, (0, 0))
    else if c.wrong + 1 = a.tries then ({ c with wts := false, wrong := 0, til := r.at_ + a.lock }, (2, 0)) else ({ c with wts := false, wrong := c.wrong + 1 }, (2, 0)))
  else if r.serv = 4 then (if c.ses ≠ 2 then (c, (4, 0)) else if c.opn = false then (c, (1, 0)) else (c, (0, r.val)))
  else if r.serv = 5 then (c, (0, 0)) else (c, (6, 0))
section
variable {w w' : World} {cb : Nat} {c c' : RComp}
theorem RCompA.lt (h : RCompA w cb c) : cb < w.heap.size := by
  rcases Nat.lt_or_ge cb w.heap.size with hlt | hge
  · exact hlt
  · have h : w.heap[cb]? = _ := h
    rw [Array.getElem?_eq_none hge] at h; cases h
theorem RCompA.g (h : RCompA w cb c) (k : Nat) : w.cell? ⟨cb, k, none⟩ = (rcCells c)[k]? := cell_of_row w cb k _ 132 (0, 0) h
theorem RCompA.fz (h : RCompA w cb c) (k : Nat) : w.frozen? ⟨cb, k, none⟩ = false := by
  have h : w.heap[cb]? = _ := h
  simp [World.frozen?, h]
theorem RCompA.put (h : RCompA w cb c) (k : Nat) (v : Value) (he : (rcCells c).setIfInBounds k v = rcCells c') : RCompA (w.setCell ⟨cb, k, none⟩ v) cb c' := by
  unfold RCompA
  rw [heap_setCell_same w cb k _ 132 v h, he]
theorem RCompA.below (h : RCompA w cb c) {B : Nat} (hb : Below B w w') (hB : cb < B) : RCompA w' cb c := (hb.block cb hB).trans h
theorem RCompA.far (h : RCompA w cb c) {p : Addr} (hp : cb ≠ p.block) (v : Value) : RCompA (w.setCell p v) cb c := (Below.heap_setCell w p v cb hp).trans h
end
/-- the blocks of a call of reply -/
structure RepW (w wx : World) (cb : Nat) (a : MAcc) (c : RComp) (r : MReq) : Prop where
  comp : RCompA wx cb c
  lt : cb < w.heap.size
  acc : wx.heap[w.heap.size]? = some (.cells #[.int .i64 a.secret, .int .i64 a.tries, .int .i64 a.lock, .int .i64 a.idle] 70 (0, 0))
  box : wx.heap[w.heap.size + 1]? = some (.cells #[.int .i64 r.at_, .int .i64 r.serv, .int .i64 r.val] 80 (0, 0))
  res : wx.heap[w.heap.size + 2]? = some (.cells #[.int .i64 0, .int .i64 0] 76 (0, 0))
  gb : w.grownBy wx (some cb)
  size : w.heap.size + 3 ≤ wx.heap.size
section
variable {w wx wy : World} {cb : Nat} {a : MAcc} {c c' : RComp} {r : MReq}
theorem RepW.put (h : RepW w wx cb a c r) (k : Nat) (v : Value) (he : (rcCells c).setIfInBounds k v = rcCells c') : RepW w (wx.setCell ⟨cb, k, none⟩ v) cb a c' r :=
  ⟨h.comp.put k v he, h.lt, (Below.heap_setCell wx ⟨cb, k, none⟩ v _ (by have := h.lt; show w.heap.size ≠ cb; omega)).trans h.acc, (Below.heap_setCell wx ⟨cb, k, none⟩ v _ (by have := h.lt; show w.heap.size + 1 ≠ cb; omega)).trans h.box, (Below.heap_setCell wx ⟨cb, k, none⟩ v _ (by have := h.lt; show w.heap.size + 2 ≠ cb; omega)).trans h.res, gb_put h.gb k v, by simpa using h.size⟩
theorem RepW.drew (h : RepW w wx cb a c r) (n : Nat) : RepW w (wx.drewN n) cb a c r := ⟨h.comp, h.lt, h.acc, h.box, h.res, ⟨h.gb.os, h.gb.tape, h.gb.output, h.gb.size, h.gb.block⟩, h.size⟩
theorem RepW.below (h : RepW w wx cb a c r) (hb : Below (w.heap.size + 3) wx wy) : RepW w wy cb a c r :=
  ⟨h.comp.below hb (by have := h.lt; omega), h.lt, (hb.block _ (by omega)).trans h.acc, (hb.block _ (by omega)).trans h.box, (hb.block _ (by omega)).trans h.res, gb_below h.gb hb (by omega), Nat.le_trans h.size hb.size⟩
theorem RepW.ac (h : RepW w wx cb a c r) (k : Nat) : wx.cell? ⟨w.heap.size, k, none⟩ = (#[.int .i64 a.secret, .int .i64 a.tries, .int .i64 a.lock, .int .i64 a.idle] : Array Value)[k]? := cell_of_row wx _ k _ 70 (0, 0) h.acc
theorem RepW.b (h : RepW w wx cb a c r) (k : Nat) : wx.cell? ⟨w.heap.size + 1, k, none⟩ = (#[.int .i64 r.at_, .int .i64 r.serv, .int .i64 r.val] : Array Value)[k]? := cell_of_row wx _ k _ 80 (0, 0) h.box
theorem RepW.z (h : RepW w wx cb a c r) (k : Nat) : wx.cell? ⟨w.heap.size + 2, k, none⟩ = (#[.int .i64 0, .int .i64 0] : Array Value)[k]? := cell_of_row wx _ k _ 76 (0, 0) h.res
theorem RepW.zf (h : RepW w wx cb a c r) (k : Nat) : wx.frozen? ⟨w.heap.size + 2, k, none⟩ = false := by simp [World.frozen?, h.res]
theorem RepW.done (h : RepW w wx cb a c r) (x y : Int) : ((wx.setCell ⟨w.heap.size + 2, 0, none⟩ (.int .i64 x)).setCell ⟨w.heap.size + 2, 1, none⟩ (.int .i64 y)).heap[w.heap.size + 2]? = some (.cells #[.int .i64 x, .int .i64 y] 76 (0, 0)) := by
  rw [heap_setCell_same _ _ 1 _ 76 _ (heap_setCell_same wx _ 0 _ 76 _ h.res)]
  simp
theorem RepW.fin (h : RepW w wx cb a c r) (x y : Value) : RCompA ((wx.setCell ⟨w.heap.size + 2, 0, none⟩ x).setCell ⟨w.heap.size + 2, 1, none⟩ y) cb c ∧ w.grownBy ((wx.setCell ⟨w.heap.size + 2, 0, none⟩ x).setCell ⟨w.heap.size + 2, 1, none⟩ y) (some cb) :=
  ⟨(h.comp.far (p := ⟨w.heap.size + 2, 0, none⟩) (by have := h.lt; show cb ≠ w.heap.size + 2; omega) x).far (p := ⟨w.heap.size + 2, 1, none⟩) (by have := h.lt; show cb ≠ w.heap.size + 2; omega) y, gb_set (gb_set h.gb (.inr (Nat.le_add_right _ 2)) x) (.inr (Nat.le_add_right _ 2)) y⟩
end
set_option maxRecDepth 100000 in
set_option maxHeartbeats 8000000 in
theorem reply_any (a : MAcc) (c : RComp) (r : MReq) (cb : Nat) (w : World) (h : RCompA w cb c) (ha : accB a = true) (hs : 0 ≤ c.seed ∧ c.seed ≤ 65535) (hw : 0 ≤ c.wrong ∧ c.wrong ≤ 1000000) (hq : 0 ≤ c.seeds ∧ c.seeds ≤ 1000000) (ht : 0 ≤ r.at_ ∧ r.at_ ≤ 1000000) {x : RComp × (Int × Int)} (hx : replyS a c r = x) :
    Calls Tryd.prog 83 #[.pointer (some ⟨cb, 0, none⟩), accV a, reqV r] w fun e w' => e = .returned (.agg #[.int .i64 x.2.1, .int .i64 x.2.2]) ∧ RCompA w' cb x.1 ∧ w.grownBy w' (some cb) := by
  unfold reqV accV
  have hab := acc_bounds ha
  have hlt := h.lt
  have hb1 : Below w.heap.size w (((w.alloc (.cells #[.int .i64 a.secret, .int .i64 a.tries, .int .i64 a.lock, .int .i64 a.idle] 70)).alloc (.cells #[.int .i64 r.at_, .int .i64 r.serv, .int .i64 r.val] 80)).alloc (.cells #[.int .i64 0, .int .i64 0] 76)) := (((Below.refl _ _).alloc (Nat.le_refl _) _).alloc (by simp) _).alloc (by simp; omega) _
  have HR : Hid (RepW w (((w.alloc (.cells #[.int .i64 a.secret, .int .i64 a.tries, .int .i64 a.lock, .int .i64 a.idle] 70)).alloc (.cells #[.int .i64 r.at_, .int .i64 r.serv, .int .i64 r.val] 80)).alloc (.cells #[.int .i64 0, .int .i64 0] 76)) cb a c r) := by
    refine ⟨h.below hb1 hlt, hlt, ?_, ?_, ?_, gb_below (gb_refl _ _) hb1 (Nat.le_refl _), by simp⟩
    · exact (Below.heap_alloc _ _ _ (by simp; omega)).trans ((Below.heap_alloc _ _ _ (by simp)).trans (heap_alloc_new w _))
    · refine (Below.heap_alloc _ _ _ (by simp)).trans ?_
      have := heap_alloc_new (w.alloc (.cells #[.int .i64 a.secret, .int .i64 a.tries, .int .i64 a.lock, .int .i64 a.idle] 70)) (.cells #[.int .i64 r.at_, .int .i64 r.serv, .int .i64 r.val] 80)
      rwa [show (w.alloc (.cells #[.int .i64 a.secret, .int .i64 a.tries, .int .i64 a.lock, .int .i64 a.idle] 70)).heap.size = w.heap.size + 1 by simp] at this
    · have := heap_alloc_new ((w.alloc (.cells #[.int .i64 a.secret, .int .i64 a.tries, .int .i64 a.lock, .int .i64 a.idle] 70)).alloc (.cells #[.int .i64 r.at_, .int .i64 r.serv, .int .i64 r.val] 80)) (.cells #[.int .i64 0, .int .i64 0] 76)
      rwa [show ((w.alloc (.cells #[.int .i64 a.secret, .int .i64 a.tries, .int .i64 a.lock, .int .i64 a.idle] 70)).alloc (.cells #[.int .i64 r.at_, .int .i64 r.serv, .int .i64 r.val] 80)).heap.size = w.heap.size + 2 by simp] at this
  have HX := Lib.hid hx
  have q1 : (((w.alloc (.cells #[.int .i64 a.secret, .int .i64 a.tries, .int .i64 a.lock, .int .i64 a.idle] 70)).alloc (.cells #[.int .i64 r.at_, .int .i64 r.serv, .int .i64 r.val] 80)).alloc (.cells #[.int .i64 0, .int .i64 0] 76)).cell? ⟨w.heap.size + 1, 1, none⟩ = some (.int .i64 r.serv) := HR.out.b 1
  clear h hx hb1
  go_enter Tryd.func83, Tryd.ntmps83
  go_upto_block 0 with fail
  have hsz3 : w.heap.size + 1 + 1 = w.heap.size + 2 := rfl
  simp only [hsz3]
  clear hsz3 q1
  generalize (((w.alloc (.cells #[.int .i64 a.secret, .int .i64 a.tries, .int .i64 a.lock, .int .i64 a.idle] 70)).alloc (.cells #[.int .i64 r.at_, .int .i64 r.serv, .int .i64 r.val] 80)).alloc (.cells #[.int .i64 0, .int .i64 0] 76)) = W at *
  have b0 : W.cell? ⟨w.heap.size + 1, 0, none⟩ = some (.int .i64 r.at_) := HR.out.b 0
  have b1 : W.cell? ⟨w.heap.size + 1, 1, none⟩ = some (.int .i64 r.serv) := HR.out.b 1
  have b2 : W.cell? ⟨w.heap.size + 1, 2, none⟩ = some (.int .i64 r.val) := HR.out.b 2
  have k0 : W.cell? ⟨cb, 0, none⟩ = some (.int .i64 c.ses) := HR.out.comp.g 0
  have kf0 := HR.out.comp.fz 0
  have k1 : W.cell? ⟨cb, 1, none⟩ = some (.bool c.opn) := HR.out.comp.g 1
  have kf1 := HR.out.comp.fz 1
  have k2 : W.cell? ⟨cb, 2, none⟩ = some (.bool c.wts) := HR.out.comp.g 2
  have kf2 := HR.out.comp.fz 2
  have k3 : W.cell? ⟨cb, 3, none⟩ = some (.int .i64 c.seed) := HR.out.comp.g 3
  have kf3 := HR.out.comp.fz 3
  have k4 : W.cell? ⟨cb, 4, none⟩ = some (.int .i64 c.seeds) := HR.out.comp.g 4
  have kf4 := HR.out.comp.fz 4
  have k5 : W.cell? ⟨cb, 5, none⟩ = some (.int .i64 c.wrong) := HR.out.comp.g 5
  have kf5 := HR.out.comp.fz 5
  have k6 : W.cell? ⟨cb, 6, none⟩ = some (.int .i64 c.til) := HR.out.comp.g 6
  have kf6 := HR.out.comp.fz 6
  have z0 : W.cell? ⟨w.heap.size + 2, 0, none⟩ = some (.int .i64 0) := HR.out.z 0
  have z1 : W.cell? ⟨w.heap.size + 2, 1, none⟩ = some (.int .i64 0) := HR.out.z 1
  have y0 := HR.out.zf 0
  have y1 := HR.out.zf 1
  have hne0 : cb ≠ w.heap.size := by omega
  have hne1 : cb ≠ w.heap.size + 1 := by omega
  have hne2 : cb ≠ w.heap.size + 2 := by omega
  by_cases s1 : r.serv = 1
  · have d1 : (r.serv == 1) = true := by simpa using s1
    by_cases v0 : r.val = 0
    · have w0 : (r.val == 0) = true := by rw [v0]; rfl
      have w1 : (r.val == 1) = false := by rw [v0]; rfl
      rcases ho : c.opn
      · have e0 : x = ({ c with ses := r.val, wts := false, opn := false }, (0, 0)) := by rw [← HX.out]; simp [replyS, s1, v0, ho]
        subst e0
        rw [ho] at k1
        have hR5 := ((HR.out.put 0 (.int .i64 r.val) (c' := { c with ses := r.val }) (by simp [rcCells])).put 2 (.bool false) (c' := { c with ses := r.val, wts := false }) (by simp [rcCells])).put 1 (.bool false) (c' := { c with ses := r.val, wts := false, opn := false }) (by simp [rcCells])
        have HR5 := Lib.hid hR5
        clear hR5 s1 v0 ho
        go_wp2_with fail
        (try simp only [Exit.then, Exit.inBlock])
        exact bodyPost_ret (results_rep rfl _ _ (w.heap.size + 2) _ _ rfl (HR5.out.done _ _)) rfl ⟨rfl, (HR5.out.fin _ _).1, (HR5.out.fin _ _).2⟩
      · have e0 : x = ({ c with ses := r.val, wts := false, opn := false }, (0, 0)) := by rw [← HX.out]; simp [replyS, s1, v0, ho]
        subst e0
        rw [ho] at k1
        have hR5 := ((HR.out.put 0 (.int .i64 r.val) (c' := { c with ses := r.val }) (by simp [rcCells])).put 2 (.bool false) (c' := { c with ses := r.val, wts := false }) (by simp [rcCells])).put 1 (.bool false) (c' := { c with ses := r.val, wts := false, opn := false }) (by simp [rcCells])
        have HR5 := Lib.hid hR5
        clear hR5 s1 v0 ho
        go_wp2_with fail
        (try simp only [Exit.then, Exit.inBlock])
        exact bodyPost_ret (results_rep rfl _ _ (w.heap.size + 2) _ _ rfl (HR5.out.done _ _)) rfl ⟨rfl, (HR5.out.fin _ _).1, (HR5.out.fin _ _).2⟩
    by_cases v1 : r.val = 1
    · have w0 : (r.val == 0) = false := by rw [v1]; rfl
      have w1 : (r.val == 1) = true := by rw [v1]; rfl
      rcases ho : c.opn
      · have e0 : x = ({ c with ses := r.val, wts := false, opn := false }, (0, 0)) := by rw [← HX.out]; simp [replyS, s1, v1, ho]
        subst e0
        rw [ho] at k1
        have hR5 := ((HR.out.put 0 (.int .i64 r.val) (c' := { c with ses := r.val }) (by simp [rcCells])).put 2 (.bool false) (c' := { c with ses := r.val, wts := false }) (by simp [rcCells])).put 1 (.bool false) (c' := { c with ses := r.val, wts := false, opn := false }) (by simp [rcCells])
        have HR5 := Lib.hid hR5
        clear hR5 s1 v1 ho
        go_wp2_with fail
        (try simp only [Exit.then, Exit.inBlock])
        exact bodyPost_ret (results_rep rfl _ _ (w.heap.size + 2) _ _ rfl (HR5.out.done _ _)) rfl ⟨rfl, (HR5.out.fin _ _).1, (HR5.out.fin _ _).2⟩
      · have e0 : x = ({ c with ses := r.val, wts := false, opn := true }, (0, 0)) := by rw [← HX.out]; simp [replyS, s1, v1, ho]
        subst e0
        rw [ho] at k1
        have hR5 := ((HR.out.put 0 (.int .i64 r.val) (c' := { c with ses := r.val }) (by simp [rcCells])).put 2 (.bool false) (c' := { c with ses := r.val, wts := false }) (by simp [rcCells])).put 1 (.bool true) (c' := { c with ses := r.val, wts := false, opn := true }) (by simp [rcCells])
        have HR5 := Lib.hid hR5
        clear hR5 s1 v1 ho
        go_wp2_with fail
        (try simp only [Exit.then, Exit.inBlock])
        exact bodyPost_ret (results_rep rfl _ _ (w.heap.size + 2) _ _ rfl (HR5.out.done _ _)) rfl ⟨rfl, (HR5.out.fin _ _).1, (HR5.out.fin _ _).2⟩
    have w0 : (r.val == 0) = false := by simpa using v0
    have w1 : (r.val == 1) = false := by simpa using v1
    by_cases v2 : r.val = 2
    · have w2 : (r.val != 2) = false := by rw [v2]; rfl
      by_cases t0 : c.ses = 0
      · have t0b : (c.ses == 0) = true := by simpa using t0
        have e0 : x = (c, (4, 0)) := by rw [← HX.out]; simp [replyS, s1, v2, t0]
        subst e0
        clear s1 v0 v1 v2 t0
        go_wp2_with fail
        (try simp only [Exit.then, Exit.inBlock])
        exact bodyPost_ret (results_rep rfl _ _ (w.heap.size + 2) _ _ rfl (HR.out.done _ _)) rfl ⟨rfl, (HR.out.fin _ _).1, (HR.out.fin _ _).2⟩
      · have t0b : (c.ses == 0) = false := by simpa using t0
        rcases ho : c.opn
        · rw [ho] at k1
          have e0 : x = (c, (1, 0)) := by rw [← HX.out]; simp [replyS, s1, v2, t0, ho]
          subst e0
          clear s1 v0 v1 v2 t0 ho
          go_wp2_with fail
          (try simp only [Exit.then, Exit.inBlock])
          exact bodyPost_ret (results_rep rfl _ _ (w.heap.size + 2) _ _ rfl (HR.out.done _ _)) rfl ⟨rfl, (HR.out.fin _ _).1, (HR.out.fin _ _).2⟩
        · rw [ho] at k1
          have e0 : x = ({ c with ses := 2 }, (0, 0)) := by rw [← HX.out]; simp [replyS, s1, v2, t0, ho]
          subst e0
          have HR5 := Lib.hid (HR.out.put 0 (.int .i64 2) (c' := { c with ses := 2 }) (by simp [rcCells]))
          clear s1 v0 v1 v2 t0 ho
          go_wp2_with fail
          (try simp only [Exit.then, Exit.inBlock])
          exact bodyPost_ret (results_rep rfl _ _ (w.heap.size + 2) _ _ rfl (HR5.out.done _ _)) rfl ⟨rfl, (HR5.out.fin _ _).1, (HR5.out.fin _ _).2⟩
    · have w2 : (r.val != 2) = true := by simpa using v2
      have e0 : x = (c, (6, 0)) := by rw [← HX.out]; simp [replyS, s1, v0, v1, v2]
      subst e0
      clear s1 v0 v1 v2
      go_wp2_with fail
      (try simp only [Exit.then, Exit.inBlock])
      exact bodyPost_ret (results_rep rfl _ _ (w.heap.size + 2) _ _ rfl (HR.out.done _ _)) rfl ⟨rfl, (HR.out.fin _ _).1, (HR.out.fin _ _).2⟩
  have d1 : (r.serv == 1) = false := by simpa using s1
  by_cases s2 : r.serv = 2
  · have d2 : (r.serv == 2) = true := by simpa using s2
    have d3 : (r.serv == 3) = false := by rw [s2]; rfl
    by_cases t0 : c.ses = 0
    · have t0b : (c.ses == 0) = true := by simpa using t0
      have e0 : x = (c, (4, 0)) := by rw [← HX.out]; simp [replyS, s2, t0]
      subst e0
      clear s1 s2 t0
      go_wp2_with fail
      (try simp only [Exit.then, Exit.inBlock])
      exact bodyPost_ret (results_rep rfl _ _ (w.heap.size + 2) _ _ rfl (HR.out.done _ _)) rfl ⟨rfl, (HR.out.fin _ _).1, (HR.out.fin _ _).2⟩
    have t0b : (c.ses == 0) = false := by simpa using t0
    by_cases t1 : r.at_ < c.til
    · have t1b : decide (r.at_ < c.til) = true := decide_eq_true t1
      have e0 : x = (c, (3, 0)) := by rw [← HX.out]; simp [replyS, s2, t0, t1]
      subst e0
      clear s1 s2 t0 t1
      go_wp2_with fail
      go_quiet (fail)
      go_wp2_with fail
      (try simp only [Exit.then, Exit.inBlock])
      exact bodyPost_ret (results_rep rfl _ _ (w.heap.size + 2) _ _ rfl ((HR.out.drew nq).done _ _)) rfl ⟨rfl, ((HR.out.drew nq).fin _ _).1, ((HR.out.drew nq).fin _ _).2⟩
    have t1b : decide (r.at_ < c.til) = false := decide_eq_false t1
    have e0 : x = ({ c with seed := (c.seeds * 7919 + 13) % 65536, seeds := c.seeds + 1, wts := true }, (0, (c.seeds * 7919 + 13) % 65536)) := by rw [← HX.out]; simp [replyS, s2, t0, t1]
    subst e0
    have hm := Int.emod_nonneg (c.seeds * 7919 + 13) (show (65536 : Int) ≠ 0 by decide)
    have hm2 := Int.emod_lt_of_pos (c.seeds * 7919 + 13) (show (0 : Int) < 65536 by decide)
    have w1 : IntKind.i64.wrap (c.seeds * 7919) = c.seeds * 7919 := IntWalk.i64_in _ (by omega)
    have w2 : IntKind.i64.wrap (c.seeds * 7919 + 13) = c.seeds * 7919 + 13 := IntWalk.i64_in _ (by omega)
    have w3 : (c.seeds * 7919 + 13).tmod 65536 = (c.seeds * 7919 + 13) % 65536 := Int.tmod_eq_emod_of_nonneg (by omega)
    have w4 : IntKind.i64.wrap ((c.seeds * 7919 + 13) % 65536) = (c.seeds * 7919 + 13) % 65536 := IntWalk.i64_in _ (by omega)
    have w5 : IntKind.i64.wrap (c.seeds + 1) = c.seeds + 1 := IntWalk.i64_in _ (by omega)
    clear s1 s2 t0 t1 hm hm2
    go_wp2_with fail
    go_quiet (fail)
    go_wp2_with fail
    have hR5 := (((HR.out.drew nq).put 3 (.int .i64 ((c.seeds * 7919 + 13) % 65536)) (c' := { c with seed := (c.seeds * 7919 + 13) % 65536 }) (by simp [rcCells])).put 4 (.int .i64 (c.seeds + 1)) (c' := { c with seed := (c.seeds * 7919 + 13) % 65536, seeds := c.seeds + 1 }) (by simp [rcCells])).put 2 (.bool true) (c' := { c with seed := (c.seeds * 7919 + 13) % 65536, seeds := c.seeds + 1, wts := true }) (by simp [rcCells])
    (try simp only [Exit.then, Exit.inBlock])
    exact bodyPost_ret (results_rep rfl _ _ (w.heap.size + 2) _ _ rfl (hR5.done _ _)) rfl ⟨rfl, (hR5.fin _ _).1, (hR5.fin _ _).2⟩
  have d2 : (r.serv == 2) = false := by simpa using s2
  by_cases s3 : r.serv = 3
  · have d3 : (r.serv == 3) = true := by simpa using s3
    by_cases t0 : c.ses = 0
    · have t0b : (c.ses == 0) = true := by simpa using t0
      have e0 : x = (c, (4, 0)) := by rw [← HX.out]; simp [replyS, s3, t0]
      subst e0
      clear s1 s2 s3 t0
      go_wp2_with fail
      (try simp only [Exit.then, Exit.inBlock])
      exact bodyPost_ret (results_rep rfl _ _ (w.heap.size + 2) _ _ rfl (HR.out.done _ _)) rfl ⟨rfl, (HR.out.fin _ _).1, (HR.out.fin _ _).2⟩
    have t0b : (c.ses == 0) = false := by simpa using t0
    by_cases t1 : r.at_ < c.til
    · have t1b : decide (r.at_ < c.til) = true := decide_eq_true t1
      have e0 : x = (c, (3, 0)) := by rw [← HX.out]; simp [replyS, s3, t0, t1]
      subst e0
      clear s1 s2 s3 t0 t1
      go_wp2_with fail
      go_quiet (fail)
      go_wp2_with fail
      (try simp only [Exit.then, Exit.inBlock])
      exact bodyPost_ret (results_rep rfl _ _ (w.heap.size + 2) _ _ rfl ((HR.out.drew nq).done _ _)) rfl ⟨rfl, ((HR.out.drew nq).fin _ _).1, ((HR.out.drew nq).fin _ _).2⟩
    have t1b : decide (r.at_ < c.til) = false := decide_eq_false t1
    rcases hwt : c.wts
    · rw [hwt] at k2
      have e0 : x = (c, (5, 0)) := by rw [← HX.out]; simp [replyS, s3, t0, t1, hwt]
      subst e0
      clear s1 s2 s3 t0 t1 hwt
      go_wp2_with fail
      go_quiet (fail)
      go_wp2_with fail
      (try simp only [Exit.then, Exit.inBlock])
      exact bodyPost_ret (results_rep rfl _ _ (w.heap.size + 2) _ _ rfl ((HR.out.drew nq).done _ _)) rfl ⟨rfl, ((HR.out.drew nq).fin _ _).1, ((HR.out.drew nq).fin _ _).2⟩
    rw [hwt] at k2
    have HWT := Lib.hid hwt
    have HS3 := Lib.hid s3
    have HT0 := Lib.hid t0
    have HT1 := Lib.hid t1
    clear s1 s2 s3 t0 t1 hwt
    obtain ⟨ky, hky⟩ : ∃ k, keyS a c.seed = k := ⟨_, rfl⟩
    have HK := Lib.hid hky
    have HC : Hid (∀ W : World, Calls Tryd.prog 85 #[.agg #[.int .i64 a.secret, .int .i64 a.tries, .int .i64 a.lock, .int .i64 a.idle], .int .i64 c.seed] W fun e w' => e = .returned (.int .i64 ky) ∧ Below W.heap.size W w') := fun W => hky ▸ rkey_any a c.seed W hab.1 hs
    clear hky
    go_wp2_with fail
    go_quiet (fail)
    go_upto_region 29 with fail
    have HR4 : Hid (RepW w ((W.drewN nq).setCell ⟨cb, 2, none⟩ (.bool false)) cb a { c with wts := false } r) := (HR.out.drew nq).put 2 (.bool false) (by simp [rcCells])
    clear b0 b1 b2 k0 k1 k2 k3 k4 k5 k6 kf0 kf1 kf2 kf3 kf4 kf5 kf6 z0 z1 y0 y1 HR
    generalize (W.drewN nq).setCell ⟨cb, 2, none⟩ (.bool false) = W4 at *
    have hS0 : (W4.drew.cell? ⟨w.heap.size, 0, none⟩ = some (.int .i64 a.secret) ∧ W4.drew.cell? ⟨w.heap.size, 1, none⟩ = some (.int .i64 a.tries) ∧ W4.drew.cell? ⟨w.heap.size, 2, none⟩ = some (.int .i64 a.lock) ∧ W4.drew.cell? ⟨w.heap.size, 3, none⟩ = some (.int .i64 a.idle)) ∧ W4.drew.cell? ⟨cb, 3, none⟩ = some (.int .i64 c.seed) ∧ W4.drew.cell? ⟨w.heap.size + 1, 2, none⟩ = some (.int .i64 r.val) := ⟨⟨HR4.out.ac 0, HR4.out.ac 1, HR4.out.ac 2, HR4.out.ac 3⟩, HR4.out.comp.g 3, HR4.out.b 2⟩
    have HS0 := Lib.hid hS0
    clear hS0
    go_region_held3 (fun w' => (w'.cell? ⟨w.heap.size, 0, none⟩ = some (.int .i64 a.secret) ∧ w'.cell? ⟨w.heap.size, 1, none⟩ = some (.int .i64 a.tries) ∧ w'.cell? ⟨w.heap.size, 2, none⟩ = some (.int .i64 a.lock) ∧ w'.cell? ⟨w.heap.size, 3, none⟩ = some (.int .i64 a.idle)) ∧ w'.cell? ⟨cb, 3, none⟩ = some (.int .i64 c.seed) ∧ w'.cell? ⟨w.heap.size + 1, 2, none⟩ = some (.int .i64 r.val)) (first | exact HS0.out | exact HS2.out | assumption) ((go_at_call 85; refine (HC.out _).mono ?_; rintro e w2 ⟨rfl, hb2⟩; have HR6 : Hid (RepW w w2 cb a { c with wts := false } r) := (HR4.out.drew 1).below (hb2.mono (by have := HR4.out.size; show _ ≤ W4.heap.size; omega)); clear hb2; have HS2 : Hid ((w2.cell? ⟨w.heap.size, 0, none⟩ = some (.int .i64 a.secret) ∧ w2.cell? ⟨w.heap.size, 1, none⟩ = some (.int .i64 a.tries) ∧ w2.cell? ⟨w.heap.size, 2, none⟩ = some (.int .i64 a.lock) ∧ w2.cell? ⟨w.heap.size, 3, none⟩ = some (.int .i64 a.idle)) ∧ w2.cell? ⟨cb, 3, none⟩ = some (.int .i64 c.seed) ∧ w2.cell? ⟨w.heap.size + 1, 2, none⟩ = some (.int .i64 r.val)) := ⟨⟨HR6.out.ac 0, HR6.out.ac 1, HR6.out.ac 2, HR6.out.ac 3⟩, HR6.out.comp.g 3, HR6.out.b 2⟩))
    clear HS0 HS2 HR4
    have b0 : w2.cell? ⟨w.heap.size + 1, 0, none⟩ = some (.int .i64 r.at_) := HR6.out.b 0
    have a1 : w2.cell? ⟨w.heap.size, 1, none⟩ = some (.int .i64 a.tries) := HR6.out.ac 1
    have a2 : w2.cell? ⟨w.heap.size, 2, none⟩ = some (.int .i64 a.lock) := HR6.out.ac 2
    have k1 : w2.cell? ⟨cb, 1, none⟩ = some (.bool c.opn) := HR6.out.comp.g 1
    have k5 : w2.cell? ⟨cb, 5, none⟩ = some (.int .i64 c.wrong) := HR6.out.comp.g 5
    have k6 : w2.cell? ⟨cb, 6, none⟩ = some (.int .i64 c.til) := HR6.out.comp.g 6
    have kf1 := HR6.out.comp.fz 1
    have kf5 := HR6.out.comp.fz 5
    have kf6 := HR6.out.comp.fz 6
    have z0 : w2.cell? ⟨w.heap.size + 2, 0, none⟩ = some (.int .i64 0) := HR6.out.z 0
    have z1 : w2.cell? ⟨w.heap.size + 2, 1, none⟩ = some (.int .i64 0) := HR6.out.z 1
    have y0 := HR6.out.zf 0
    have y1 := HR6.out.zf 1
    rcases hkb : (r.val == ky)
    · have hne : r.val ≠ keyS a c.seed := by rw [HK.out]; simpa using hkb
      by_cases hw1 : c.wrong + 1 = a.tries
      · have e0 : x = ({ c with wts := false, wrong := 0, til := r.at_ + a.lock }, (2, 0)) := by rw [← HX.out]; simp [replyS, HS3.out, HT0.out, HT1.out, HWT.out, hne, hw1]
        subst e0
        have e1 : IntKind.i64.wrap (c.wrong + 1) = c.wrong + 1 := IntWalk.i64_in _ (by omega)
        have e2 : IntKind.i64.wrap (r.at_ + a.lock) = r.at_ + a.lock := IntWalk.i64_in _ (by omega)
        have e3 : (c.wrong + 1 == a.tries) = true := by simpa using hw1
        clear hne hw1 hkb
        go_wp2_with fail
        go_quiet (fail)
        go_wp2_with fail
        have hR7 := (((HR6.out.put 5 (.int .i64 (c.wrong + 1)) (c' := { c with wts := false, wrong := c.wrong + 1 }) (by simp [rcCells])).drew nq).put 6 (.int .i64 (r.at_ + a.lock)) (c' := { c with wts := false, wrong := c.wrong + 1, til := r.at_ + a.lock }) (by simp [rcCells])).put 5 (.int .i64 0) (c' := { c with wts := false, wrong := 0, til := r.at_ + a.lock }) (by simp [rcCells])
        (try simp only [Exit.then, Exit.inBlock])
        exact bodyPost_ret (results_rep rfl _ _ (w.heap.size + 2) _ _ rfl (hR7.done _ _)) rfl ⟨rfl, (hR7.fin _ _).1, (hR7.fin _ _).2⟩
      · have e0 : x = ({ c with wts := false, wrong := c.wrong + 1 }, (2, 0)) := by rw [← HX.out]; simp [replyS, HS3.out, HT0.out, HT1.out, HWT.out, hne, hw1]
        subst e0
        have e1 : IntKind.i64.wrap (c.wrong + 1) = c.wrong + 1 := IntWalk.i64_in _ (by omega)
        have e3 : (c.wrong + 1 == a.tries) = false := by simpa using hw1
        clear hne hw1 hkb
        go_wp2_with fail
        go_quiet (fail)
        go_wp2_with fail
        have hR7 := (HR6.out.put 5 (.int .i64 (c.wrong + 1)) (c' := { c with wts := false, wrong := c.wrong + 1 }) (by simp [rcCells])).drew nq
        (try simp only [Exit.then, Exit.inBlock])
        exact bodyPost_ret (results_rep rfl _ _ (w.heap.size + 2) _ _ rfl (hR7.done _ _)) rfl ⟨rfl, (hR7.fin _ _).1, (hR7.fin _ _).2⟩
    · have heq : r.val = keyS a c.seed := by rw [HK.out]; simpa using hkb
      have e0 : x = ({ c with wts := false, opn := true, wrong := 0 }, (0, 0)) := by rw [← HX.out]; simp [replyS, HS3.out, HT0.out, HT1.out, HWT.out, heq]
      subst e0
      clear heq hkb
      go_wp2_with fail
      have hR7 := (HR6.out.put 1 (.bool true) (c' := { c with wts := false, opn := true }) (by simp [rcCells])).put 5 (.int .i64 0) (c' := { c with wts := false, opn := true, wrong := 0 }) (by simp [rcCells])
      (try simp only [Exit.then, Exit.inBlock])
      exact bodyPost_ret (results_rep rfl _ _ (w.heap.size + 2) _ _ rfl (hR7.done _ _)) rfl ⟨rfl, (hR7.fin _ _).1, (hR7.fin _ _).2⟩
  have d3 : (r.serv == 3) = false := by simpa using s3
  by_cases s4 : r.serv = 4
  · have d4 : (r.serv == 4) = true := by simpa using s4
    by_cases t0 : c.ses = 2
    · have t0b : (c.ses != 2) = false := by rw [t0]; rfl
      rcases ho : c.opn
      · rw [ho] at k1
        have e0 : x = (c, (1, 0)) := by rw [← HX.out]; simp [replyS, s4, t0, ho]
        subst e0
        clear s1 s2 s3 s4 t0 ho
        go_wp2_with fail
        (try simp only [Exit.then, Exit.inBlock])
        exact bodyPost_ret (results_rep rfl _ _ (w.heap.size + 2) _ _ rfl (HR.out.done _ _)) rfl ⟨rfl, (HR.out.fin _ _).1, (HR.out.fin _ _).2⟩
      · rw [ho] at k1
        have e0 : x = (c, (0, r.val)) := by rw [← HX.out]; simp [replyS, s4, t0, ho]
        subst e0
        clear s1 s2 s3 s4 t0 ho
        go_wp2_with fail
        (try simp only [Exit.then, Exit.inBlock])
        exact bodyPost_ret (results_rep rfl _ _ (w.heap.size + 2) _ _ rfl (HR.out.done _ _)) rfl ⟨rfl, (HR.out.fin _ _).1, (HR.out.fin _ _).2⟩
    · have t0b : (c.ses != 2) = true := by simpa using t0
      have e0 : x = (c, (4, 0)) := by rw [← HX.out]; simp [replyS, s4, t0]
      subst e0
      clear s1 s2 s3 s4 t0
      go_wp2_with fail
      (try simp only [Exit.then, Exit.inBlock])
      exact bodyPost_ret (results_rep rfl _ _ (w.heap.size + 2) _ _ rfl (HR.out.done _ _)) rfl ⟨rfl, (HR.out.fin _ _).1, (HR.out.fin _ _).2⟩
  have d4 : (r.serv == 4) = false := by simpa using s4
  by_cases s5 : r.serv = 5
  · have d5 : (r.serv == 5) = true := by simpa using s5
    have e0 : x = (c, (0, 0)) := by rw [← HX.out]; simp [replyS, s5]
    subst e0
    clear s1 s2 s3 s4 s5
    go_wp2_with fail
    (try simp only [Exit.then, Exit.inBlock])
    exact bodyPost_ret (results_rep rfl _ _ (w.heap.size + 2) _ _ rfl (HR.out.done _ _)) rfl ⟨rfl, (HR.out.fin _ _).1, (HR.out.fin _ _).2⟩
  · have d5 : (r.serv == 5) = false := by simpa using s5
    have e0 : x = (c, (6, 0)) := by rw [← HX.out]; simp [replyS, s1, s2, s3, s4, s5]
    subst e0
    clear s1 s2 s3 s4 s5
    go_wp2_with fail
    (try simp only [Exit.then, Exit.inBlock])
    exact bodyPost_ret (results_rep rfl _ _ (w.heap.size + 2) _ _ rfl (HR.out.done _ _)) rfl ⟨rfl, (HR.out.fin _ _).1, (HR.out.fin _ _).2⟩
end Go.Proofs.YtonpemikodajdaaDoor
