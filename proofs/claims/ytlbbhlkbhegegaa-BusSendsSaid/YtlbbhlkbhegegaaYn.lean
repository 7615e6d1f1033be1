/- Walks: a gate sends. -/
import Derived.Test.YtlbbhlkbhegegaaYe
/- Walks: send. -/
namespace Go.Proofs.Ytlbbhlkbhegegaa
open Go.RowKit

section
variable {α : Type} {R : RK α} {w w' : World} {base g n : Nat} {own own' : Nat → Int} {lab : Int}
/-- a row cut from the front -/
theorem RowC.cut {off cap : Nat} {x : α} {l : List α} (h : RowC R w base own lab (.slice (some ⟨g, off, none⟩) (l.length + 1) cap) (x :: l)) :
    RowC R w base own lab (.slice (if cap = 1 then some ⟨g, off, none⟩ else some ⟨g, off + R.k, none⟩) l.length (cap - 1)) l := by
  rcases h with ⟨h, _⟩ | ⟨g', off', cap', F, hv, hc, hb, ho, hO, hF⟩
  · cases h
  · injection hv with hA _ hcc
    injection hA with hA
    injection hA with hg hof
    subst hg hof hcc
    rw [List.length_cons] at hc
    by_cases h1 : cap = 1
    · rw [if_pos h1]
      obtain rfl : l = [] := List.eq_nil_of_length_eq_zero (by omega)
      exact .inl ⟨rfl, _, by rw [h1]; rfl⟩
    · rw [if_neg h1]
      obtain ⟨c, rfl⟩ : ∃ c, cap = c + 1 := ⟨cap - 1, by omega⟩
      refine .inr ⟨g, off + R.k, c, F, rfl, by omega, hb, ho, ?_, fun i y hy j hj => ?_⟩
      · rw [Nat.add_mul, Nat.one_mul] at hO
        rw [show off + R.k + c * R.k = off + (c * R.k + R.k) by omega]
        exact hO
      · have := hF (i + 1) y (by simpa using hy) j hj
        rw [Nat.add_mul, Nat.one_mul] at this
        rw [← this]
        congr 1
        omega
/-- a cell of the first element stored -/
theorem RowC.head {off cap n j0 : Nat} {x y : α} {l : List α} {u : Value} (h : RowC R w base own lab (.slice (some ⟨g, off, none⟩) n cap) (x :: l)) (hj : j0 < R.k) (hu : R.enc y j0 = u) (hy : ∀ j, j < R.k → j ≠ j0 → R.enc y j = R.enc x j) :
    RowC R (w.setCell ⟨g, off + j0, none⟩ u) base own lab (.slice (some ⟨g, off, none⟩) n cap) (y :: l) := by
  rcases h with ⟨h, _⟩ | ⟨g', off', cap', F, hv, hc, hb, ho, hO, hF⟩
  · cases h
  · injection hv with hA hn hcc
    injection hA with hA
    injection hA with hg hof
    subst hg hof hcc hn
    refine .inr ⟨g, off, cap, _, rfl, hc, hb, ho, hO.set (off + j0) u, fun i z hz j hj' => ?_⟩
    cases i with
    | zero =>
      have hz : y = z := Option.some.inj hz
      subst hz
      have h0 := hF 0 x rfl j hj'
      show (if off + 0 * R.k + j = off + j0 then u else F (off + 0 * R.k + j)) = _
      rw [Nat.zero_mul, Nat.add_zero] at h0 ⊢
      by_cases e : j = j0
      · subst e; rw [if_pos rfl, hu]
      · rw [if_neg (by omega), h0, hy j hj' e]
    | succ i =>
      have h0 := hF (i + 1) z (by simpa using hz) j hj'
      show (if off + (i + 1) * R.k + j = off + j0 then u else F (off + (i + 1) * R.k + j)) = _
      rw [Nat.add_mul, Nat.one_mul] at h0 ⊢
      rw [if_neg (by omega), h0]
theorem Fam.head {hv : Int → Value} {l : Int → List α} {off cap n j0 : Nat} {x y : α} {r : List α} {u : Value} (h : Fam R w base own hv l) (hv0 : hv lab = .slice (some ⟨g, off, none⟩) n cap) (hl : l lab = x :: r) (hj : j0 < R.k) (hu : R.enc y j0 = u) (hy : ∀ j, j < R.k → j ≠ j0 → R.enc y j = R.enc x j) :
    Fam R (w.setCell ⟨g, off + j0, none⟩ u) base own hv (updI l lab (y :: r)) := fun lab' => by
  have h0 := h lab
  rw [hv0, hl] at h0
  by_cases e : lab' = lab
  · subst e
    rw [updI_same, hv0]
    exact h0.head hj hu hy
  · rw [updI_other _ _ e]
    rcases h0 with ⟨h1, _⟩ | ⟨g', off', cap', F, hv1, hc, hb, ho, hO, hF⟩
    · cases h1
    · injection hv1 with hA _ _
      injection hA with hA
      injection hA with hg _
      subst hg
      exact (h lab').moved fun k _ _ h5 => ⟨Below.heap_setCell w ⟨g, off + j0, none⟩ _ k (fun e2 => by subst e2; exact e (h5.symm.trans ho)), h5⟩
end
section
variable {p : PPar} {w w' : World} {nm : Nat} {own own' : Nat → Int} {H : Int → Value} {l : Int → List MPkt} {s : Mot} {g : Nat}
/-- a new block of a label of its own -/
theorem PostA.fresh (h : PostA p w nm own H l s) (o : Obj) : PostA p (w.alloc o) nm (fun k => if k = w.heap.size then curL else own k) H l s := by
  have h2 := h.alloc o
  exact ⟨h2.box, h2.map, h2.lins, h2.outs, fun lab => (h.fam lab).moved fun k _ h4 h5 => ⟨Below.heap_alloc w o k h4, by show (if k = w.heap.size then curL else own k) = lab; rw [if_neg (by omega)]; exact h5⟩, h2.z, h2.net, h2.ord, h2.size, h2.lk, h2.wk⟩
/-- the first packet of a line: its bytes -/
theorem PostA.head (h : PostA p w nm own H l s) {d off cap n : Nat} {x : MPkt} {r : List MPkt} (hv : H (labG g) = .slice (some ⟨d, off, none⟩) n cap) (hl : l (labG g) = x :: r) (hd : p.base ≤ d) (m : Int) :
    PostA p (w.setCell ⟨d, off + 3, none⟩ (.int .i64 m)) nm own H (updI l (labG g) ({ x with many := m } :: r)) (setL s g ({ x with many := m } :: r)) := by
  have ho := h.ord
  have l1 := ho.l1; have l2 := ho.l2; have l3 := ho.l3; have l4 := ho.l4; have b1 := ho.b1
  have hne : ∀ k, k < p.base → (w.setCell ⟨d, off + 3, none⟩ (.int .i64 m)).heap[k]? = w.heap[k]? := fun k hk => Below.heap_setCell w ⟨d, off + 3, none⟩ _ k (by show k ≠ d; omega)
  refine ⟨(hne _ l1).trans h.box, h.map.moved (hne _ l2), h.lins.far (p := ⟨d, off + 3, none⟩) (by show p.lb ≠ d; omega) _, h.outs.far (p := ⟨d, off + 3, none⟩) (by show p.ob ≠ d; omega) _, ?_, h.z, h.net.below ((Below.refl p.B w).setCell (p := ⟨d, off + 3, none⟩) (by show p.B ≤ d; omega) _) (Nat.le_refl _), ho, by simpa using h.size, fun k => ?_, fun t ht => by rw [updI_other _ _ (labG_neg ht)]; exact h.wk t ht⟩
  · exact h.fam.head (R := PK) (lab := labG g) hv hl (show 3 < 4 by omega) rfl fun j hj hj3 => by
      have hj : j < 4 := hj
      show pkAt _ j = pkAt _ j
      unfold pkAt
      match j, hj with
      | 0, _ => rfl
      | 1, _ => rfl
      | 2, _ => rfl
      | 3, _ => exact absurd rfl hj3
  · show updI l (labG g) _ (labG k) = if k = g then _ else s.lines k
    by_cases e : k = g
    · subst e; rw [if_pos rfl, updI_same]
    · rw [if_neg e, updI_other _ _ (labG_inj e)]; exact h.lk k
/-- the first packet of a line is gone -/
theorem PostA.pop (h : PostA p w nm own H l s) {d off cap : Nat} {x : MPkt} {r : List MPkt} (hv : H (labG g) = .slice (some ⟨d, off, none⟩) (r.length + 1) cap) (hl : l (labG g) = x :: r) {V : Value} (hV : V = .slice (if cap = 1 then some ⟨d, off, none⟩ else some ⟨d, off + 4, none⟩) r.length (cap - 1)) :
    PostA p (w.setCell ⟨p.lb, g, none⟩ V) nm own (updI H (labG g) V) (updI l (labG g) r) (setL s g r) := by
  have h0 := h.fam (labG g)
  rw [hv, hl] at h0
  have h1 := RowC.cut h0
  refine h.line (h.fam.put (labG g) (by rw [hV]; exact h1) (fun _ _ => rfl) (World.grownBy.refl w none) fun g hg => by cases hg) (World.grownBy.refl w none) fun k hk => by cases hk
end
theorem sizeof_pk (W : World) : (sizeOf 117).run Try.prog W = .ok 4 W := by
  obtain ⟨i0, hi, hz0, hz1, hz2⟩ := info_parts PK.info
  have hi : Try.prog.info? 117 = some i0 := hi
  have hz1 : i0.size = 4 := hz1
  simp [sizeOf, typeInfo, hi, hz1]
theorem slice_pk (W : World) (b off n cap : Nat) (h1 : 1 ≤ n) : (Instr.slice 115 (.slice (some ⟨b, off, none⟩) n cap) (some (.int .i64 1)) none none).run Try.prog W = .ok (.slice (if cap = 1 then some ⟨b, off, none⟩ else some ⟨b, off + 4, none⟩) (n - 1) (cap - 1)) W := by
  have he : Try.prog.elem 115 = 117 := by kernel_rfl
  rw [run_slice_l W 115 _ _ _ (by rw [he]; exact under_pkts) .i64 _ (by omega) (by omega), he, sizeof_pk]
  simp [Result.andThen, sliced, Option.map_some, add_none']
section
variable {ops : Array Oper} {o : Oper} {a : Act} {Q : Exit → Act → World → Prop} {K : Act → World → Prop} {E : Prop}
theorem step_look_pk (w : World) (hg : o.guard = none) (m x : Operand) (ho : o.op = Op.lookup 111 m x false) (mb n : Nat) (hv : Int → Value) (hm : a.eval m = .map (some mb)) (h : MapH w mb n hv) (t : Int) (h0 : 0 ≤ t) (h1 : t ≤ 100000) (hx : a.eval x = .int .i64 t) (V : Value) (hV : hv t = V)
    (hK : K (a.put o.dst V) w) : if Region.wanted o (yielded ops a.tmps) = true then Oper.wp Try.prog o a w K Q else E := by
  rw [if_pos (by simp [Region.wanted, hg])]
  have hr := h.look h0 h1
  rw [hV] at hr
  unfold Oper.wp
  simp [execOp, ho, hm, hx, hr, Result.andThen]
  exact hK
end
/-- the line's way through a gate, so far -/
def stS (s : Mot) (u : Int) (g : Nat) (E r : List MPkt) : Mot := setL { s with way := s.way ++ E.map fun x => (u, x) } g r
theorem stS_add (s : Mot) (u : Int) (g : Nat) (E r : List MPkt) (x : MPkt) : addW (stS s u g E r) u x = stS s u g (E ++ [x]) r := by
  unfold addW stS setL
  simp
theorem stS_set (s : Mot) (u : Int) (g : Nat) (E r r' : List MPkt) : setL (stS s u g E r) g r' = stS s u g E r' := by
  unfold stS setL
  congr 1
  funext h
  by_cases e : h = g
  · simp [e]
  · simp [e]
theorem stS_start (s : Mot) (u : Int) (g : Nat) : stS s u g [] (s.lines g) = s := by
  unfold stS setL
  cases s
  simp
  funext h
  by_cases e : h = g
  · simp [e]
  · simp [e]
theorem stS_end (N : MNet) (t : Int) (s : Mot) (g : Nat) : stS s (t + (gateAt N g).delay) g (sendL (gateAt N g).rate (s.lines g)).1 (sendL (gateAt N g).rate (s.lines g)).2 = sendM N t s g := rfl
/-- what is sent of c bytes: E so far, r left -/
def SendA (rate : Int) (L : List MPkt) (c : Int) (E r : List MPkt) : Prop := sendL rate L = (E ++ (sendL c r).1, (sendL c r).2)
theorem SendA.fin {rate c : Int} {L E r : List MPkt} (h : SendA rate L c E r) (hc : c ≤ 0 ∨ r = []) : sendL rate L = (E, r) := by
  unfold SendA at h
  rw [h]
  rcases hc with hc | rfl
  · rcases r with _ | ⟨x, r⟩
    · simp [sendL]
    · rw [sendL, if_pos hc]; simp
  · simp [sendL]
theorem SendA.all {rate c : Int} {L E r : List MPkt} {x : MPkt} (h : SendA rate L c E (x :: r)) (hc : 0 < c) (hx : x.many ≤ c) : SendA rate L (c - x.many) (E ++ [hopped x]) r := by
  unfold SendA at h ⊢
  rw [h, sendL, if_neg (by omega), if_pos hx]
  simp
theorem SendA.some {rate c : Int} {L E r : List MPkt} {x : MPkt} (h : SendA rate L c E (x :: r)) (hc : 0 < c) (hx : c < x.many) : SendA rate L 0 (E ++ [{ hopped x with many := c }]) ({ x with many := x.many - c } :: r) := by
  unfold SendA at h ⊢
  rw [h, sendL, if_neg (by omega), if_neg (by omega), sendL, if_pos (Int.le_refl _)]
  simp
theorem AppP.far {α : Type} {R : RK α} {w w' : World} {base : Nat} {own : Nat → Int} {hv : Int → Value} {l : Int → List α} {lab : Int} {x : α} {v' : Value} (h : AppP R w base own hv l lab x v' w') {b : Nat} (hb : b < w.heap.size) (ho : own b ≠ lab) : w'.heap[b]? = w.heap[b]? := by
  obtain ⟨_, _, _, _, row, hg, hr⟩ := h
  exact hg.block b hb fun e => ho (hr b e.symm).2
/-- a packet put on its way -/
theorem send_way {p : PPar} {W w7 w8 : World} {nm : Nat} {ow : Nat → Int} {H : Int → Value} {l : Int → List MPkt} {s : Mot} {u : Int} {x : MPkt} {v' : Value} (hP : PostA p W nm ow H l s) (hu : 0 ≤ u) (hap : AppP PK W p.base ow H l u x v' w7) (hm : MapH w8 p.mb (nm + 1) (updI H u v')) (hg2 : w7.grownBy w8 (some p.mb)) :
    ∃ own8 H8 l8, PostA p w8 (nm + 1) own8 H8 l8 (addW s u x) ∧ (∀ g, H8 (labG g) = H (labG g) ∧ l8 (labG g) = l (labG g)) ∧ (∀ k, k < W.heap.size → own8 k = ow k) ∧ Below p.B W w8 ∧ W.heap.size ≤ w8.heap.size ∧ ∀ k, p.base ≤ k → k < W.heap.size → ow k ≠ u → w8.heap[k]? = W.heap[k]? := by
  obtain ⟨own7, hf, ho, hz, row, hg, hr⟩ := hap
  have hz0 : offV v' = 0 := by
    have := hP.z u hu
    omega
  have h1 := hP.way hu hf hz0 hg (fun k hk => (hr k hk).1) hm hg2
  have hpo := hP.ord
  have l1 := hpo.l1; have l2 := hpo.l2; have b1 := hpo.b1; have b2 := hpo.b2; have hs := hP.size
  have hs7 := hg.size
  have hs8 := hg2.size
  refine ⟨own7, _, _, h1, fun g => ⟨updI_other _ _ (labG_neg hu).symm, updI_other _ _ (labG_neg hu).symm⟩, ho, ?_, by omega, fun k hk hkw hku => ?_⟩
  · have hbl : Below p.B W w7 := ⟨hg.os, hg.tape, hg.output, hg.size, fun k hk => hg.block k (by omega) (fun e => by have := (hr k e.symm).1; omega)⟩
    exact hbl.trans ⟨hg2.os, hg2.tape, hg2.output, hg2.size, fun k hk => hg2.block k (by omega) (fun e => by injection e with e; omega)⟩
  · exact (hg2.block k (by omega) (fun e => by injection e with e; omega)).trans (hg.block k hkw fun e => hku (hr k e.symm).2)
end Go.Proofs.Ytlbbhlkbhegegaa

/- Walks: send. -/
namespace Go.Proofs.Ytlbbhlkbhegegaa
open Go.RowKit

section
variable {p : PPar}
set_option maxRecDepth 100000 in
set_option maxHeartbeats 8000000 in
theorem send_any (g : Nat) (t : Int) (w : World) (M : Nat) (own : Nat → Int) (s : Mot) (h : PostR p w M own s) (hM : M ≤ 900000000) (hv : netB p.N = true) (hi : InvM p.N (t + 1) s) (hg : g < p.N.gates.length) (ht0 : 0 ≤ t) (ht1 : t ≤ 10000) :
    Calls Try.prog 91 #[.pointer (some ⟨p.pb, 0, none⟩), .int .i64 (g : Int), .int .i64 t] w fun e w' => e = .returned (.tuple #[]) ∧ (∃ own', PostR p w' (M + 10000) own' (sendM p.N t s g)) ∧ Below p.B w w' := by
  obtain ⟨nm, H, l, hnM, hP⟩ := h
  obtain ⟨gt, gb, go, hgt, hgA, hgB, e0, e1⟩ := hP.net.2.2.1.at_ hg
  have hgr := netB_gate hv hgt
  have hga := gateAt_of hgt
  obtain ⟨a0, a1, a2, a3, a4, a5, f4⟩ := hP.cells
  obtain ⟨rate, hrate⟩ : ∃ rate, gt.rate = rate := ⟨_, rfl⟩
  obtain ⟨dl, hdl⟩ : ∃ dl, gt.delay = dl := ⟨_, rfl⟩
  rw [hrate] at e0 hgr
  rw [hdl] at e1 hgr
  rw [hgA] at a0
  obtain ⟨w1, hw1⟩ : ∃ w1, w.alloc (.cells #[.int .i64 rate, .int .i64 dl] 74) = w1 := ⟨_, rfl⟩
  obtain ⟨ow1, HP1, HOW1⟩ : ∃ ow1, Hid (PostA p w1 nm ow1 H l s) ∧ Hid (ow1 w.heap.size = curL) := ⟨_, by rw [← hw1]; exact hP.fresh _, by show (if w.heap.size = w.heap.size then curL else own w.heap.size) = curL; rw [if_pos rfl]⟩
  have HX1 : Hid (w1.heap[w.heap.size]? = some (.cells #[.int .i64 rate, .int .i64 dl] 74 (0, 0))) := by rw [← hw1]; exact heap_alloc_new w _
  have HBB : Hid (p.base ≤ w.heap.size) := hP.size
  have HB1 : Hid (Below p.B w w1) := by rw [← hw1]; exact (Below.refl _ _).alloc (by have := hP.size; have := hP.ord.b1; have := hP.ord.l1; omega) _
  have HSA : Hid (SendA rate (s.lines g) rate [] (s.lines g)) := by show SendA _ _ _ _ _; unfold SendA; simp
  have HFIN : Hid (∀ E r, sendL rate (s.lines g) = (E, r) → stS s (t + dl) g E r = sendM p.N t s g) := fun E r h => by
    rw [← stS_end, hga, hrate, hdl, h]
  have HST : Hid (stS s (t + dl) g [] (s.lines g) = s) := stS_start s _ g
  have HIL : Hid (InvM p.N (t + 1) s ∧ netB p.N = true) := ⟨hi, hv⟩
  have HNM := Lib.hid hnM
  obtain ⟨⟨hr1, hr2⟩, hd1, hd2⟩ := hgr
  have HLEN : Hid (((s.lines g).length ≤ 6000 ∧ s.way.length ≤ 6000) ∧ ∀ x ∈ s.lines g, (1 ≤ x.many ∧ x.many ≤ 1000) ∧ 0 ≤ x.hop ∧ x.hop ≤ 100) := ⟨⟨hi.bd.2.2.2 g hg, hi.bd.2.2.1⟩, fun x hx => by
    have h1 := hi.lines g x hx
    have h2 := h1.1.hop0
    have h3 := h1.1.hop1
    refine ⟨⟨h1.1.many1, h1.1.many2⟩, h2, ?_⟩
    have hpl : (pathOf p.N x).length ≤ 8 := by
      unfold pathOf
      have h0 := h1.1.flow0
      have h4 := h1.1.flow1
      obtain ⟨fl, hf⟩ : ∃ fl, p.N.flows[x.flow.toNat]? = some fl := ⟨_, List.getElem?_eq_getElem (show x.flow.toNat < p.N.flows.length by omega)⟩
      rw [flowAt_of hf]
      have := (netB_flow hv hf).2.1
      rw [inB_iff] at this
      omega
    omega⟩
  clear hP hi hv hgt hga hnM
  go_enter Try.func91, Try.ntmps91
  go_upto_region 1 with fail
  (try rw [hw1])
  clear hw1 a0 a1 a2 a3 a4 a5 f4 e0 e1 hgA hgB hrate hdl
  have k0 := cell_of_row w1 _ 0 _ _ _ HX1.out
  go_wp2_with fail
  clear k0
  go_loopw [7] (fun vl wr => ∃ (c : Int) (E r : List MPkt) (n2 : Nat) (ow : Nat → Int) (H2 : Int → Value) (l2 : Int → List MPkt), vl = .int .i64 c ∧ (0 ≤ c ∧ c ≤ rate) ∧ Hid (SendA rate (s.lines g) c E r) ∧ Hid ((n2 : Int) + c ≤ nm + rate) ∧ Hid (PostA p wr n2 ow H2 l2 (stS s (t + dl) g E r)) ∧ Hid (ow w.heap.size = curL) ∧ Hid (wr.heap[w.heap.size]? = some (.cells #[.int .i64 rate, .int .i64 dl] 74 (0, 0))) ∧ Hid (∀ x ∈ r, (1 ≤ x.many ∧ x.many ≤ 1000) ∧ 0 ≤ x.hop ∧ x.hop ≤ 100) ∧ Hid (r.length ≤ (s.lines g).length ∧ (E.length : Int) + c ≤ rate) ∧ Hid (Below p.B w wr)) (fun vl _ => (intOf vl).toNat)
  case atStart => exact ⟨rate, [], s.lines g, nm, _, H, l, rfl, ⟨by omega, Int.le_refl _⟩, HSA, Int.le_refl _, by rw [HST.out]; exact HP1, HOW1, HX1, HLEN.out.2, ⟨Nat.le_refl _, by simp⟩, HB1⟩
  case round =>
    clear HP1 HX1 HB1 HSA HOW1
    obtain ⟨c, E, r, n2, ow, H2, l2, rfl, hc, HSA, HN2, HP, HOW, HX, HRM, HRL, HB⟩ := hrel
    rename World => wr
    obtain ⟨a0, a1, a2, a3, a4, a5, f4⟩ := HP.out.cells
    have m0 : wr.cell? ⟨p.lb, g, none⟩ = some (H2 (labG g)) := HP.out.lins.cell hg
    have hlk : l2 (labG g) = r := by
      have := HP.out.lk g
      rw [this]
      exact if_pos rfl
    have HLK := Lib.hid hlk
    obtain ⟨XA, xc, hXA, hxc⟩ := (HP.out.fam (labG g)).form
    rw [hlk] at hXA hxc
    have HXA := Lib.hid hXA
    rw [hXA] at m0
    by_cases hc0 : 0 < c
    · have g0 : decide (c > 0) = true := decide_eq_true hc0
      rcases r with _ | ⟨x, r⟩
      · clear hlk hXA
        have HF9 : Hid (stS s (t + dl) g E [] = sendM p.N t s g) := HFIN.out E [] (HSA.out.fin (.inr rfl))
        go_wp2_with fail
        go_end0
        exact ⟨rfl, ⟨ow, n2, H2, l2, by have := HN2.out; have := HNM.out; omega, by rw [← HF9.out]; exact HP.out⟩, HB.out⟩
      · clear hlk hXA m0 HXA
        obtain ⟨d, off, cap, hH, hcap, hdb, hdl, hdo, hdf, hdc⟩ := (HP.out.fam (labG g)).at_ (i := 0) (x := x) (by rw [HLK.out]; rfl)
        rw [HLK.out] at hH hcap
        have hH : H2 (labG g) = .slice (some ⟨d, off, none⟩) (r.length + 1) cap := hH
        have HH := Lib.hid hH
        have x0 : wr.cell? ⟨d, off, none⟩ = some (.int .i64 x.flow) := by have := hdc 0 (by decide); rw [Nat.zero_mul, Nat.add_zero] at this; exact this
        have x1 : wr.cell? ⟨d, off + 1, none⟩ = some (.int .i64 x.hop) := by have := hdc 1 (by decide); rw [Nat.zero_mul, Nat.add_zero] at this; exact this
        have x2 : wr.cell? ⟨d, off + 2, none⟩ = some (.int .i64 x.born) := by have := hdc 2 (by decide); rw [Nat.zero_mul, Nat.add_zero] at this; exact this
        have x3 : wr.cell? ⟨d, off + 3, none⟩ = some (.int .i64 x.many) := by have := hdc 3 (by decide); rw [Nat.zero_mul, Nat.add_zero] at this; exact this
        have m0 : wr.cell? ⟨p.lb, g, none⟩ = some (.slice (some ⟨d, off, none⟩) (r.length + 1) cap) := by rw [← hH]; exact HP.out.lins.cell hg
        have k1 := cell_of_row wr _ 1 _ _ _ HX.out
        simp only [List.getElem?_toArray, List.getElem?_cons_succ, List.getElem?_cons_zero] at k1
        obtain ⟨⟨hm1, hm2⟩, hh0, hh1⟩ := HRM.out x (by simp)
        have HDD := Lib.hid (And.intro hdb (And.intro hdl hdo))
        have HDF := Lib.hid hdf
        clear hH hdc hdb hdo hcap
        go_upto_region 6 with fail
        obtain ⟨n, hn⟩ : ∃ n, (if x.many < c then x.many else c) = n := ⟨_, rfl⟩
        have hnb : (1 ≤ n ∧ n ≤ c ∧ n ≤ x.many) ∧ (n = x.many ∨ n = c ∧ c < x.many) := by
          rw [← hn]
          split <;> omega
        (try rw [hn])
        clear hn
        obtain ⟨u, hu⟩ : ∃ u, t + dl = u := ⟨_, rfl⟩
        have hub : 0 ≤ u ∧ u ≤ 100000 := by omega
        (try rw [hu])
        rw [hu] at HP
        have HUU := Lib.hid hu
        clear hu
        obtain ⟨VA, vc, hVA, hvc⟩ := (HP.out.fam u).form
        have HVA := Lib.hid hVA
        have hll : (l2 u).length ≤ 1000000 := by
          have h1 := (HP.out.wk u hub.1).len
          have h2 : (atW u (stS s u g E (x :: r)).way).length ≤ (stS s u g E (x :: r)).way.length := by unfold atW; rw [List.length_map]; exact List.length_filter_le _ _
          have h3 : (stS s u g E (x :: r)).way.length = s.way.length + E.length := by show (s.way ++ E.map _).length = _; rw [List.length_append, List.length_map]
          have h4 := HLEN.out.1.2
          have h5 := HRL.out.2
          omega
        have HNB : Hid (∀ j, j < 4 → (wr.drew.alloc (.cells #[.int .i64 x.flow, .int .i64 (x.hop + 1), .int .i64 x.born, .int .i64 n] 117)).cell? ⟨wr.drew.heap.size, j, none⟩ = some (pkAt ⟨x.flow, x.hop + 1, x.born, n⟩ j)) := fun j hj => by
          rw [newcell]
          unfold pkAt
          match j, hj with
          | 0, _ => rfl
          | 1, _ => rfl
          | 2, _ => rfl
          | 3, _ => rfl
        have hpo := HP.out.ord
        have hpl := hpo.l1
        have hpl2 := hpo.l2
        have hps := HP.out.size
        have hpbw : p.pb < wr.heap.size := by omega
        have HPA : Hid (PostA p (wr.drew.alloc (.cells #[.int .i64 x.flow, .int .i64 (x.hop + 1), .int .i64 x.born, .int .i64 n] 117)) n2 ow H2 l2 (stS s u g E (x :: r))) := HP.out.drew.alloc _
        have hP0 : (wr.drew.alloc (.cells #[.int .i64 x.flow, .int .i64 (x.hop + 1), .int .i64 x.born, .int .i64 n] 117)).heap[p.pb]? = wr.heap[p.pb]? := Below.heap_alloc wr.drew _ _ (by show p.pb < wr.heap.size; omega)
        have HM3 : Hid (∀ W : World, W.heap[p.pb]? = (wr.drew.alloc (.cells #[.int .i64 x.flow, .int .i64 (x.hop + 1), .int .i64 x.born, .int .i64 n] 117)).heap[p.pb]? → W.cell? ⟨p.pb, 2, none⟩ = some (.map (some p.mb))) := fun W hW => (World.cell?_of_block (a := ⟨p.pb, 2, none⟩) (hW.trans hP0)).trans a2
        have HMP := Lib.hid HP.out.map
        have HMQ := Lib.hid HPA.out.map
        have hpm : p.mb < wr.heap.size := by omega
        have hn2 : n2 ≤ 1000000000 := by have := HN2.out; have := HNM.out; omega
        have hpH := HP.out.z u hub.1
        clear hP0 hVA a0 a1 a3 a4 a5 f4 m0 k1 hpH
        have HS : Hid (∀ w' : World, w'.heap[p.pb]? = wr.heap[p.pb]? ∧ w'.heap[d]? = wr.heap[d]? → w'.cell? ⟨p.pb, 2, none⟩ = some (.map (some p.mb)) ∧ w'.cell? ⟨d, off, none⟩ = some (.int .i64 x.flow) ∧ w'.cell? ⟨d, off + 1, none⟩ = some (.int .i64 x.hop) ∧ w'.cell? ⟨d, off + 2, none⟩ = some (.int .i64 x.born)) := fun w' hw => ⟨(World.cell?_of_block (a := ⟨p.pb, 2, none⟩) hw.1).trans a2, (World.cell?_of_block (a := ⟨d, off, none⟩) hw.2).trans x0, (World.cell?_of_block (a := ⟨d, off + 1, none⟩) hw.2).trans x1, (World.cell?_of_block (a := ⟨d, off + 2, none⟩) hw.2).trans x2⟩
        have hdw := HDD.out.2.1
        have HS2 : Hid ((wr.drew.alloc (.cells #[.int .i64 x.flow, .int .i64 (x.hop + 1), .int .i64 x.born, .int .i64 n] 117)).heap[p.pb]? = wr.heap[p.pb]? ∧ (wr.drew.alloc (.cells #[.int .i64 x.flow, .int .i64 (x.hop + 1), .int .i64 x.born, .int .i64 n] 117)).heap[d]? = wr.heap[d]?) := ⟨Below.heap_alloc wr.drew _ _ (by show p.pb < wr.heap.size; omega), Below.heap_alloc wr.drew _ _ hdw⟩
        have HDU : Hid (ow d ≠ u) := by have := HDD.out.2.2; show ow d ≠ u; rw [this]; exact (labG_neg hub.1).symm
        have hlk1 : (Instr.lookup 111 (.map (some p.mb)) (.int .i64 u) false).run Try.prog wr.drew = .ok (.slice VA (l2 u).length vc) wr.drew := by rw [← HVA.out]; exact (HMP.out.moved (w' := wr.drew) rfl).look hub.1 hub.2
        have hlk2 : (Instr.lookup 111 (.map (some p.mb)) (.int .i64 u) false).run Try.prog (wr.drew.alloc (.cells #[.int .i64 x.flow, .int .i64 (x.hop + 1), .int .i64 x.born, .int .i64 n] 117)) = .ok (.slice VA (l2 u).length vc) (wr.drew.alloc (.cells #[.int .i64 x.flow, .int .i64 (x.hop + 1), .int .i64 x.born, .int .i64 n] 117)) := by rw [← HVA.out]; exact HMQ.out.look hub.1 hub.2
        have hlk3 : (Instr.lookup 111 (.map (some p.mb)) (.int .i64 u) false).run Try.prog (wr.alloc (.cells #[.int .i64 x.flow, .int .i64 (x.hop + 1), .int .i64 x.born, .int .i64 n] 117)).drew = .ok (.slice VA (l2 u).length vc) (wr.alloc (.cells #[.int .i64 x.flow, .int .i64 (x.hop + 1), .int .i64 x.born, .int .i64 n] 117)).drew := by rw [← HVA.out]; exact (HMQ.out.moved (w' := (wr.alloc (.cells #[.int .i64 x.flow, .int .i64 (x.hop + 1), .int .i64 x.born, .int .i64 n] 117)).drew) rfl).look hub.1 hub.2
        have e1 : IntKind.i64.wrap (x.hop + 1) = x.hop + 1 := IntWalk.i64_in _ (by omega)
        have HMDB : Hid (p.mb ≠ p.pb ∧ p.mb ≠ d) := ⟨hpo.n1.symm, by have := HDD.out.1; omega⟩
        go_region_held3 (fun w' => w'.cell? ⟨p.pb, 2, none⟩ = some (.map (some p.mb)) ∧ w'.cell? ⟨d, off, none⟩ = some (.int .i64 x.flow) ∧ w'.cell? ⟨d, off + 1, none⟩ = some (.int .i64 x.hop) ∧ w'.cell? ⟨d, off + 2, none⟩ = some (.int .i64 x.born)) (first | go_keep | exact HS.out _ ⟨rfl, rfl⟩ | exact HS.out _ HS2.out | exact HS.out _ HS7.out | exact HS.out _ HS8.out) (first
          | (refine step_app_pk _ (by rfl) _ _ (by rfl) HPA.out.fam u (by rw [HVA.out]; rfl) wr.drew.heap.size 1 (by rfl) ⟨x.flow, x.hop + 1, x.born, n⟩ HNB.out hll (by simp; omega) ?_; intro gx ox cx w7 hap; have HAP := Lib.hid hap; have HS7 : Hid (w7.heap[p.pb]? = wr.heap[p.pb]? ∧ w7.heap[d]? = wr.heap[d]?) := ⟨(hap.old (by simp; omega) hpl).trans HS2.out.1, (hap.far (by simp; omega) HDU.out).trans HS2.out.2⟩; have HMS : Hid (MapH w7 p.mb n2 H2) := HPA.out.map.moved (hap.old (by simp; omega) hpl2); have hs7 : wr.heap.size ≤ w7.heap.size := (by obtain ⟨_, _, _, _, _, hg, _⟩ := hap; have := hg.size; simp at this; omega); obtain ⟨w8, hr8, hm8, hg8⟩ := HMS.out.store (t := u) hn2 hub.1 hub.2 (.slice (some ⟨gx, ox, none⟩) ((l2 u).length + 1) cx); have HM8 := Lib.hid hm8; have HG8 := Lib.hid hg8; have HS8 : Hid (w8.heap[p.pb]? = wr.heap[p.pb]? ∧ w8.heap[d]? = wr.heap[d]?) := ⟨(hg8.block _ (by omega) (fun e => HMDB.out.1 (Option.some.inj e).symm)).trans HS7.out.1, (hg8.block _ (by omega) (fun e => HMDB.out.2 (Option.some.inj e).symm)).trans HS7.out.2⟩; clear hm8 hg8; clear hap)
          | fail)
        all_goals
          obtain ⟨own8, H8, l8, hP8, hl8, ho8, hb8, hs8, hk8⟩ := send_way HPA.out hub.1 HAP.out HM8.out HG8.out
          rw [stS_add] at hP8
          have HP8 := Lib.hid hP8
          have HB8 : Hid (Below p.B w w8) := (HB.out.drew.alloc (by have := hpo.b1; show p.B ≤ wr.heap.size; omega) _).trans hb8
          have hgbw : w.heap.size < wr.heap.size := lt_of_cells HX.out
          have HX8 : Hid (w8.heap[w.heap.size]? = some (.cells #[.int .i64 rate, .int .i64 dl] 74 (0, 0))) := by
            have h1 := hk8 w.heap.size HBB.out (by simp; omega) (by rw [HOW.out]; unfold curL; omega)
            exact h1.trans ((Below.heap_alloc wr.drew _ _ hgbw).trans HX.out)
          have HOW8 : Hid (own8 w.heap.size = curL) := (ho8 w.heap.size (by simp; omega)).trans HOW.out
          have HOD8 : Hid (own8 d = labG g) := (ho8 d (by simp; omega)).trans HDD.out.2.2
          have HH8 : Hid (H8 (labG g) = .slice (some ⟨d, off, none⟩) (r.length + 1) cap) := (hl8 g).1.trans HH.out
          have HL8 : Hid (l8 (labG g) = x :: r) := (hl8 g).2.trans HLK.out
          have hgd : w.heap.size ≠ d := fun e => by
            have h1 := HOW.out
            rw [e, HDD.out.2.2] at h1
            have h2 := netB_len HIL.out.2
            unfold labG curL at h1
            omega
          have m0 : w8.cell? ⟨p.lb, g, none⟩ = some (.slice (some ⟨d, off, none⟩) (r.length + 1) cap) := by rw [← HH8.out]; exact hP8.lins.cell hg
          have mf := hP8.lins.frozen g
          have y3 : w8.cell? ⟨d, off + 3, none⟩ = some (.int .i64 x.many) := (World.cell?_of_block (a := ⟨d, off + 3, none⟩) HS8.out.2).trans x3
          have yf : w8.frozen? ⟨d, off + 3, none⟩ = false := (World.frozen?_of_block (a := ⟨d, off + 3, none⟩) HS8.out.2).trans (HDF.out _)
          have hbl : d ≠ p.lb ∧ d ≠ p.pb ∧ w.heap.size ≠ p.lb := by have := HDD.out.1; have := HBB.out; have := hpo.l3; omega
          have HP9 : Hid (PostA p (w8.setCell ⟨d, off + 3, none⟩ (.int .i64 (x.many - n))) (n2 + 1) own8 H8 (updI l8 (labG g) ({ x with many := x.many - n } :: r)) (stS s u g (E ++ [⟨x.flow, x.hop + 1, x.born, n⟩]) ({ x with many := x.many - n } :: r))) := by
            have h1 := hP8.head HH8.out HL8.out HDD.out.1 (x.many - n)
            rw [stS_set] at h1
            exact h1
          have HB9 : Hid (Below p.B w (w8.setCell ⟨d, off + 3, none⟩ (.int .i64 (x.many - n)))) := HB8.out.setCell (p := ⟨d, off + 3, none⟩) (by have := HDD.out.1; have := hpo.b1; show p.B ≤ d; omega) _
          have HX9 : Hid ((w8.setCell ⟨d, off + 3, none⟩ (.int .i64 (x.many - n))).heap[w.heap.size]? = some (.cells #[.int .i64 rate, .int .i64 dl] 74 (0, 0))) := (Below.heap_setCell w8 ⟨d, off + 3, none⟩ _ _ hgd).trans HX8.out
          obtain ⟨n3, n4⟩ : w8.cell? ⟨p.pb, 3, none⟩ = some (.slice (some ⟨p.lb, 0, none⟩) p.N.gates.length p.N.gates.length) ∧ True := ⟨hP8.cells.2.2.2.1, trivial⟩
          have HNE : Hid (((n2 + 1 : Nat) : Int) + (c - n) ≤ nm + rate ∧ ((E ++ [(⟨x.flow, x.hop + 1, x.born, n⟩ : MPkt)]).length : Int) + (c - n) ≤ rate) := by
            have h1 := HN2.out
            have h2 := HRL.out.2
            constructor
            · omega
            · rw [List.length_append]; simp only [List.length_cons, List.length_nil]; omega
          clear hP8 hl8 ho8 hb8 hs8 hk8 hlk1 hlk2 hlk3 hr8 n4
          by_cases hall : n = x.many
          · have HSA2 : Hid (SendA rate (s.lines g) (c - n) (E ++ [⟨x.flow, x.hop + 1, x.born, n⟩]) r) := by
              show SendA _ _ _ _ _
              rw [hall]
              exact HSA.out.all hc0 (by omega)
            have hz : x.many - n = 0 := by omega
            have HALL := Lib.hid hall
            clear hall
            obtain ⟨MA, hMA⟩ : ∃ MA : Option Addr, (if cap = 1 then some (⟨d, off, none⟩ : Addr) else some ⟨d, off + 4, none⟩) = MA := ⟨_, rfl⟩
            have hsl : ∀ W : World, (Instr.slice 115 (.slice (some ⟨d, off, none⟩) (r.length + 1) cap) (some (.int .i64 1)) none none).run Try.prog W = .ok (.slice MA r.length (cap - 1)) W := fun W => by
              rw [← hMA]
              have := slice_pk W d off (r.length + 1) cap (by omega)
              rw [Nat.add_sub_cancel] at this
              exact this
            have HMA := Lib.hid hMA
            clear hMA
            rw [hz] at HP9 HB9 HX9
            go_upto_region 10 with fail
            obtain ⟨w9, hw9⟩ : ∃ w9, w8.setCell ⟨d, off + 3, none⟩ (.int .i64 0) = w9 := ⟨_, rfl⟩
            rw [hw9] at HP9 HB9 HX9
            (try rw [hw9])
            clear hw9 m0 mf y3 yf n3
            obtain ⟨_, _, _, n3, _, _, _⟩ := HP9.out.cells
            have m0 : w9.cell? ⟨p.lb, g, none⟩ = some (.slice (some ⟨d, off, none⟩) (r.length + 1) cap) := by rw [← HH8.out]; exact HP9.out.lins.cell hg
            have mf := HP9.out.lins.frozen g
            have HPT : Hid (PostA p (w9.setCell ⟨p.lb, g, none⟩ (.slice MA r.length (cap - 1))).drew (n2 + 1) own8 (updI H8 (labG g) (.slice MA r.length (cap - 1))) _ _) := (HP9.out.pop HH8.out (updI_same _ _ _) (by rw [HMA.out])).drew
            have HPT2 := HPT.out
            rw [stS_set] at HPT2
            have HPT3 := Lib.hid HPT2
            clear HPT HPT2
            have HB10 : Hid (Below p.B w (w9.setCell ⟨p.lb, g, none⟩ (.slice MA r.length (cap - 1))).drew) := (HB9.out.setCell (p := ⟨p.lb, g, none⟩) hpo.b3 _).drew
            have HX10 : Hid ((w9.setCell ⟨p.lb, g, none⟩ (.slice MA r.length (cap - 1))).drew.heap[w.heap.size]? = some (.cells #[.int .i64 rate, .int .i64 dl] 74 (0, 0))) := (Below.heap_setCell w9 ⟨p.lb, g, none⟩ _ _ hbl.2.2).trans HX9.out
            refine wp_region_quiet_tail 14 (by kernel_rfl) (by kernel_rfl) ?_
            simp only [List.take_succ_cons, List.take_zero, List.drop_succ_cons, List.drop_zero]
            repeat (go_big_quiet_step (fail))
            refine wpQuiet_nil ?_
            go_wp2_with fail
            refine ⟨⟨c - n, _, _, n2 + 1, own8, _, _, rfl, ⟨by omega, by omega⟩, HSA2, HNE.out.1, by rw [HUU.out]; exact HPT3, HOW8, HX10, fun y hy => HRM.out y (by simp [hy]), ⟨?_, HNE.out.2⟩, HB10⟩, by simp [intOf]; omega⟩
            have := HRL.out.1
            rw [List.length_cons] at this
            omega
          · have HSA2 : Hid (SendA rate (s.lines g) (c - n) (E ++ [⟨x.flow, x.hop + 1, x.born, n⟩]) ({ x with many := x.many - n } :: r)) := by
              show SendA _ _ _ _ _
              have hnc : n = c ∧ c < x.many := by omega
              rw [hnc.1, Int.sub_self]
              exact HSA.out.some hc0 hnc.2
            have hz : ¬ x.many - n = 0 := by omega
            go_wp2_with fail
            refine ⟨⟨c - n, _, _, n2 + 1, own8, H8, _, rfl, ⟨by omega, by omega⟩, HSA2, HNE.out.1, by rw [HUU.out]; exact HP9, HOW8, HX9, fun y hy => ?_, ⟨?_, HNE.out.2⟩, HB9⟩, by simp [intOf]; omega⟩
            · rcases List.mem_cons.1 hy with rfl | hy
              · have h1 := (HRM.out x (by simp)).2
                refine ⟨⟨?_, ?_⟩, h1⟩
                · show 1 ≤ x.many - n; omega
                · show x.many - n ≤ 1000; omega
              · exact HRM.out y (by simp [hy])
            · have := HRL.out.1
              rw [List.length_cons] at this ⊢
              exact this
    · have g0 : decide (c > 0) = false := decide_eq_false (by omega)
      have HF9 : Hid (stS s (t + dl) g E r = sendM p.N t s g) := HFIN.out E r (HSA.out.fin (.inl (by omega)))
      clear hlk hXA
      go_wp2_with fail
      go_end0
      exact ⟨rfl, ⟨ow, n2, H2, l2, by have := HN2.out; have := HNM.out; omega, by rw [← HF9.out]; exact HP.out⟩, HB.out⟩
end
end Go.Proofs.Ytlbbhlkbhegegaa
