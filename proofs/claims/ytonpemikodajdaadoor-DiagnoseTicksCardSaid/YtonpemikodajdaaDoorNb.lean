/- Walk: our copied. -/
import Derived.Test.YtonpemikodajdaaDoorNa
import Derived.Test.YtonpemikodajdaaDoorMe
import Derived.Test.YtonpemikodajdaaDoorMi
import Derived.Deep.Cut
import Derived.Deep.RegionLaw
namespace Go.Proofs.YtonpemikodajdaaDoor
open Go.RowKit

theorem step_clones {ops : Array Oper} {o : Oper} {a : Act} {Q' : Act → World → Prop} {Q : Exit → Act → World → Prop} {E : Prop} (w : World) (hg : o.guard = none) (x : Operand) (ho : o.op = .call { callee := .value (.func 107), args := #[x], argTypes := #[25] }) (A : Option Addr) (cap : Nat) (ks : List MCode) (pv : Nat → Option Addr × Nat)
    (hx : a.eval x = .slice A ks.length cap) (h : SlA w w.heap.size 6 A ks.length (codeCell ks pv)) (hl : ks.length ≤ 1000000)
    (hK : ∀ V w', RowC w' w.heap.size V (zipK ks pv) → Below w.heap.size w w' → Q' (a.put o.dst V) w') :
    if Region.wanted o (yielded ops a.tmps) = true then Oper.wp Tryd.prog o a w Q' Q else E := by
  rw [if_pos (by simp [Region.wanted, hg])]
  have hC := clone_codes A cap ks w pv h hl
  have hf : a.eval (.func 107) = .func (.func 107) #[] #[] := rfl
  unfold Oper.wp execOp
  simp only [ho, resolve, invoke, Sem.run_bind, List.map_toArray, List.map_cons, List.map_nil, hx, hf]
  simp [go_sem]
  refine hC.mono ?_
  rintro e w2 ⟨V, K, rfl, hO, rfl, hb⟩
  exact hK V w2 hO hb
/-- a code gets a frame of its own -/
theorem RS.setFrame {w : World} {B mb : Nat} {t : Int} {VC : Value} {ns : List Int} {VK : Value} {cs : List Int} {g n cap : Nat} {K : List (MCode × Value)} (h : RS w B mb t VC ns VK cs (.slice (some ⟨g, 0, none⟩) n cap) K) {ix : Nat} {p : MCode × Value} (hp : K[ix]? = some p) {u : Value} (hu : FrameU w (RU B mb VC VK (.slice (some ⟨g, 0, none⟩) n cap)) (p.1, u)) :
    RS (w.setCell ⟨g, ix * 6 + 4, none⟩ u) B mb t VC ns VK cs (.slice (some ⟨g, 0, none⟩) n cap) (K.set ix (p.1, u)) := by
  have hn : n = K.length := by
    rcases h.row.2 with ⟨e, _⟩ | ⟨g', cap', cur, e, _⟩
    · cases e
    · injection e
  have hx : ∀ b, b ≠ g → (w.setCell ⟨g, ix * 6 + 4, none⟩ u).heap[b]? = w.heap[b]? := fun b hb => Below.heap_setCell w ⟨g, ix * 6 + 4, none⟩ _ b hb
  have h9 := (World.ownsRow.stored (show w.ownsRow B 46 6 (.slice (some ⟨g, 0, none⟩) n cap) n (K.flatMap cells6) by have := h.row; unfold RowC at this; rwa [← hn] at this) (ix * 6 + 4) u).1
  refine ⟨(hx mb (fun e => h.nv (by rw [e]; rfl))).trans h.hm, h.bm, h.cnt.keepB (fun b hb => hx b (fun e => h.d2 b hb (by rw [e]; rfl))), h.clm.keepB (fun b hb => hx b (fun e => h.d3 b hb (by rw [e]; rfl))), ?_, h.nc, h.nk, h.nv, h.d1, h.d2, h.d3, fun q hq => ?_⟩
  · unfold RowC
    rw [cells6_set (p' := (p.1, u)) hp (j := 4) (by decide) rfl, List.length_set, ← hn]
    exact h9
  · have hf : FrameU w (RU B mb VC VK (.slice (some ⟨g, 0, none⟩) n cap)) q := by
      rcases mem_set_or hq with rfl | hq
      · exact hu
      · exact h.frames q hq
    exact hf.keep (by simp) (fun b _ hu => hx b (fun e => hu.2.2.2.1 (by rw [e]; rfl))) (fun _ _ hu => hu)
/-- a memory that is being copied: its parts are new, its first k frames too -/
def CpW (w : World) (nb : Nat) (B : Nat) (t : Int) (s : WSt) (pv : Nat → Option Addr × Nat) (k : Nat) (wx : World) : Prop :=
  ∃ VC VK V K, K.map Prod.fst = s.ks ∧ RS wx 0 nb t VC s.ns VK s.cs V K ∧ OutI wx B VC s.ns ∧ OutI wx B VK s.cs ∧ RowC wx B V K ∧ (∀ i p, k ≤ i → K[i]? = some p → p.2 = .slice (pv i).1 p.1.frame.length (pv i).2) ∧ (∀ i p, i < k → K[i]? = some p → FrameU wx (RU B nb VC VK V) p) ∧ Below w.heap.size w wx
theorem cp_start {w w1 w2 w3 w4 : World} {t : Int} {s : WSt} {VC VK V : Value} {pv : Nat → Option Addr × Nat} {nb : Nat} {v1 v2 v3 : Value} (hnb : nb = w.heap.size) (hs1 : w1.heap.size = w.heap.size + 2) (hb1 : Below w.heap.size w w1)
    (h2 : Below w1.heap.size w1 w2) (h3 : Below w2.heap.size w2 w3) (h4 : Below w3.heap.size w3 w4) (hC : OutI w2 w1.heap.size VC s.ns) (hK : OutI w3 w2.heap.size VK s.cs) (hV : RowC w4 w3.heap.size V (zipK s.ks pv))
    (hh : w4.heap[nb]? = some (.cells #[.int .i64 t, v1, v2, v3] 27 (0, 0))) (hf : ∀ i, i < s.ks.length → (s.ks.getD i dCode).frame.length ≤ (pv i).2 ∧ IntsA w w.heap.size (pv i).1 (s.ks.getD i dCode).frame) :
    CpW w nb w1.heap.size t s pv 0 (((w4.setCell ⟨nb, 1, none⟩ VC).setCell ⟨nb, 2, none⟩ VK).setCell ⟨nb, 3, none⟩ V) := by
  have s2 := h2.size
  have s3 := h3.size
  have s4 := h4.size
  have lC := own_block_lt hC
  have lK := own_block_lt hK
  have lV := own_block_lt hV
  have hx : ∀ b, b ≠ nb → (((w4.setCell ⟨nb, 1, none⟩ VC).setCell ⟨nb, 2, none⟩ VK).setCell ⟨nb, 3, none⟩ V).heap[b]? = w4.heap[b]? := fun b hb =>
    (Below.heap_setCell _ ⟨nb, 3, none⟩ _ b hb).trans ((Below.heap_setCell _ ⟨nb, 2, none⟩ _ b hb).trans (Below.heap_setCell _ ⟨nb, 1, none⟩ _ b hb))
  have hC4 : OutI w4 w1.heap.size VC s.ns := hC.keepB (fun g hg => (h4.block g (by have := (lC g hg).2; omega)).trans (h3.block g (lC g hg).2))
  have hK4 : OutI w4 w1.heap.size VK s.cs := own_base (hK.keepB (fun g hg => h4.block g (lK g hg).2)) s2
  have hV4 : RowC w4 w1.heap.size V (zipK s.ks pv) := own_base hV (by omega)
  have hC5 : OutI (((w4.setCell ⟨nb, 1, none⟩ VC).setCell ⟨nb, 2, none⟩ VK).setCell ⟨nb, 3, none⟩ V) w1.heap.size VC s.ns := hC4.keepB (fun g hg => hx g (by have := (lC g hg).1; omega))
  have hK5 : OutI (((w4.setCell ⟨nb, 1, none⟩ VC).setCell ⟨nb, 2, none⟩ VK).setCell ⟨nb, 3, none⟩ V) w1.heap.size VK s.cs := hK4.keepB (fun g hg => hx g (by have := (lK g hg).1; omega))
  have hV5 : RowC (((w4.setCell ⟨nb, 1, none⟩ VC).setCell ⟨nb, 2, none⟩ VK).setCell ⟨nb, 3, none⟩ V) w1.heap.size V (zipK s.ks pv) := own_keep hV4 (fun g hg => hx g (by have := (lV g hg).1; omega))
  have hB4 : Below w.heap.size w w4 := hb1.trans ((h2.trans (h3.mono s2) |>.trans (h4.mono (by omega))).mono (by omega))
  have hB5 : Below w.heap.size w (((w4.setCell ⟨nb, 1, none⟩ VC).setCell ⟨nb, 2, none⟩ VK).setCell ⟨nb, 3, none⟩ V) := ((hB4.setCell (p := ⟨nb, 1, none⟩) (by show _ ≤ nb; omega) _).setCell (p := ⟨nb, 2, none⟩) (by show _ ≤ nb; omega) _).setCell (p := ⟨nb, 3, none⟩) (by show _ ≤ nb; omega) _
  refine ⟨VC, VK, V, zipK s.ks pv, zipK_fst _ _, ⟨?_, Nat.zero_le _, own_base hC5 (Nat.zero_le _), own_base hK5 (Nat.zero_le _), own_base hV5 (Nat.zero_le _), fun e => by have := (lC _ e).1; omega, fun e => by have := (lK _ e).1; omega, fun e => by have := (lV _ e).1; omega, fun g hg e => by have := (lC g hg).2; have := (lK g e).1; omega, fun g hg e => by have := (lC g hg).2; have := (lV g e).1; omega, fun g hg e => by have := (lK g hg).2; have := (lV g e).1; omega, fun p hp => ?_⟩, hC5, hK5, hV5, fun i p _ hp => ?_, (fun i p hi => by omega), hB5⟩
  · rw [heap_setCell_same _ nb 3 _ 27 _ (heap_setCell_same _ nb 2 _ 27 _ (heap_setCell_same w4 nb 1 _ 27 _ hh))]
    rfl
  · obtain ⟨i, hi, rfl⟩ := List.mem_iff_getElem.1 hp
    rw [zipK_len] at hi
    have e := zipK_at s.ks pv hi
    rw [List.getElem?_eq_getElem (by rw [zipK_len]; exact hi)] at e
    injection e with e
    rw [e]
    obtain ⟨f1, f2⟩ := hf i hi
    have f3 := f2.keep hB5
    refine ⟨(pv i).1, (pv i).2, rfl, f1, f3.1, fun hn => ?_⟩
    obtain ⟨b, off, hA, hb, hc⟩ := f3.2 hn
    exact ⟨b, off, hA, by have := hB5.size; omega, ⟨by omega, fun e => by have := (lC _ e).1; omega, fun e => by have := (lK _ e).1; omega, fun e => by have := (lV _ e).1; omega, Nat.zero_le _⟩, hc⟩
  · have hi : i < s.ks.length := by
      have := (List.getElem?_eq_some_iff.1 hp).1
      rwa [zipK_len] at this
    rw [zipK_at s.ks pv hi] at hp
    injection hp with hp
    rw [← hp]
theorem OutI.frameU {w : World} {B : Nat} {v : Value} {c : MCode} (h : OutI w B v c.frame) (hl : c.frame.length ≤ 1000) {U : Nat → Prop} (hU : ∀ g, B ≤ g → g < w.heap.size → U g) : FrameU w U (c, v) := by
  obtain ⟨A, cap, e, hc, hI⟩ := h.reads
  refine ⟨A, cap, e, hc, by unfold maxLen; show c.frame.length ≤ _; omega, fun hn => ?_⟩
  obtain ⟨b, off, hA, hb, hcell⟩ := hI.2 hn
  obtain ⟨g, cap', e2, hg, hgl⟩ := OutI.form h hn
  rw [e, hA] at e2
  injection e2 with e2
  injection e2 with e2
  injection e2 with e3 e4
  subst e3
  exact ⟨b, off, hA, hb, hU b hg hb, hcell⟩
theorem map_set_fst {K : List (MCode × Value)} {k : Nat} {p : MCode × Value} (hp : K[k]? = some p) (v : Value) : (K.set k (p.1, v)).map Prod.fst = K.map Prod.fst := by
  rw [List.map_set]
  apply List.ext_getElem?
  intro j
  rw [List.getElem?_set]
  by_cases h : k = j
  · subst h
    rw [List.getElem?_map, hp]
    have := (List.getElem?_eq_some_iff.1 hp).1
    simp [this]
  · rw [if_neg h]
theorem cp_step {w wr w2 : World} {nb B : Nat} {t : Int} {s : WSt} {pv : Nat → Option Addr × Nat} {k : Nat} {VC VK : Value} {g n cap : Nat} {K : List (MCode × Value)} (hB : w.heap.size ≤ B) (hnb : nb < B) (hBr : B ≤ wr.heap.size) (hK : K.map Prod.fst = s.ks)
    (hR : RS wr 0 nb t VC s.ns VK s.cs (.slice (some ⟨g, 0, none⟩) n cap) K) (hC : OutI wr B VC s.ns) (hV : OutI wr B VK s.cs) (hRow : RowC wr B (.slice (some ⟨g, 0, none⟩) n cap) K)
    (hno : ∀ i p, k ≤ i → K[i]? = some p → p.2 = .slice (pv i).1 p.1.frame.length (pv i).2) (hyes : ∀ i p, i < k → K[i]? = some p → FrameU wr (RU B nb VC VK (.slice (some ⟨g, 0, none⟩) n cap)) p) (hbw : Below w.heap.size w wr)
    {p : MCode × Value} (hp : K[k]? = some p) {v : Value} (h2 : Below wr.heap.size wr w2) (hO : OutI w2 wr.heap.size v p.1.frame) (hfl : p.1.frame.length ≤ 1000) : CpW w nb B t s pv (k + 1) (w2.setCell ⟨g, k * 6 + 4, none⟩ v) := by
  have s2 := h2.size
  have lC := own_block_lt hC
  have lK := own_block_lt hV
  have lR := own_block_lt hRow
  have hg := lR g rfl
  have hx : ∀ b, b ≠ g → (w2.setCell ⟨g, k * 6 + 4, none⟩ v).heap[b]? = w2.heap[b]? := fun b hb => Below.heap_setCell w2 ⟨g, k * 6 + 4, none⟩ _ b hb
  have hnew : ∀ B', B' ≤ wr.heap.size → FrameU w2 (RU B' nb VC VK (.slice (some ⟨g, 0, none⟩) n cap)) (p.1, v) := fun B' hB' => hO.frameU hfl fun b hb _ => ⟨by omega, fun e => by have := (lC _ e).2; omega, fun e => by have := (lK _ e).2; omega, fun e => by have := (lR _ e).2; omega, by omega⟩
  have hkeep : ∀ B' q, FrameU w2 (RU B' nb VC VK (.slice (some ⟨g, 0, none⟩) n cap)) q → FrameU (w2.setCell ⟨g, k * 6 + 4, none⟩ v) (RU B' nb VC VK (.slice (some ⟨g, 0, none⟩) n cap)) q := fun B' q hq => hq.keep (by simp) (fun b _ hu => hx b (fun e => hu.2.2.2.1 (by rw [e]; rfl))) (fun _ _ hu => hu)
  have hR2 := (hR.below h2 (Nat.le_refl _)).setFrame hp (hnew 0 (Nat.zero_le _))
  have hn : n = K.length := by
    rcases hRow.2 with ⟨e, _⟩ | ⟨g', cap', cur, e, _⟩
    · cases e
    · injection e
  have hRow2 : RowC w2 B (.slice (some ⟨g, 0, none⟩) n cap) K := own_below hRow h2 (fun b hb => (lR b hb).2)
  have h9 := (World.ownsRow.stored (show w2.ownsRow B 46 6 (.slice (some ⟨g, 0, none⟩) n cap) n (K.flatMap cells6) by have := hRow2; unfold RowC at this; rwa [← hn] at this) (k * 6 + 4) v).1
  refine ⟨VC, VK, .slice (some ⟨g, 0, none⟩) n cap, K.set k (p.1, v), by rw [map_set_fst hp, hK], hR2, (show OutI w2 B VC s.ns from own_below hC h2 (fun b hb => (lC b hb).2)).keepB (fun b hb => hx b (fun e => hR.d2 b hb (by rw [e]; rfl))), (show OutI w2 B VK s.cs from own_below hV h2 (fun b hb => (lK b hb).2)).keepB (fun b hb => hx b (fun e => hR.d3 b hb (by rw [e]; rfl))), ?_, fun i q hi hq => ?_, fun i q hi hq => ?_, (hbw.trans (h2.mono hbw.size)).setCell (p := ⟨g, k * 6 + 4, none⟩) (by show _ ≤ g; omega) _⟩
  · unfold RowC
    rw [cells6_set (p' := (p.1, v)) hp (j := 4) (by decide) rfl, List.length_set, ← hn]
    exact h9
  · rw [List.getElem?_set_ne (by omega)] at hq
    exact hno i q (by omega) hq
  · by_cases hik : k = i
    · subst hik
      have hkl := (List.getElem?_eq_some_iff.1 hp).1
      rw [List.getElem?_set_self hkl] at hq
      injection hq with hq
      subst hq
      exact hkeep _ _ (hnew B hBr)
    · rw [List.getElem?_set_ne hik] at hq
      exact hkeep _ _ ((hyes i q (by omega) hq).keep s2 (fun b hb _ => h2.block b hb) (fun _ _ hu => hu))
theorem cp_end {w wr : World} {nb B : Nat} {t : Int} {s : WSt} {pv : Nat → Option Addr × Nat} (h : CpW w nb B t s pv s.ks.length wr) :
    ∃ A1 c1 A2 c2 A3 c3, wr.heap[nb]? = some (.cells #[.int .i64 t, .slice A1 s.ns.length c1, .slice A2 s.cs.length c2, .slice A3 s.ks.length c3] 27 (0, 0)) ∧ MOwn wr B (.agg #[.int .i64 t, .slice A1 s.ns.length c1, .slice A2 s.cs.length c2, .slice A3 s.ks.length c3]) t s ∧ Below w.heap.size w wr := by
  obtain ⟨VC, VK, V, K, hK, hR, hC, hV, hRow, _, hyes, hbw⟩ := h
  have hKl : K.length = s.ks.length := by rw [← hK, List.length_map]
  obtain ⟨A1, c1, e1, _⟩ := hC.reads
  obtain ⟨A2, c2, e2, _⟩ := hV.reads
  obtain ⟨A3, c3, e3, _⟩ := hRow.lenV
  have key : MOwn wr B (.agg #[.int .i64 t, VC, VK, V]) t s := ⟨VC, VK, V, K, rfl, hK, hC, hV, hRow, hR.d1, hR.d2, hR.d3, fun p hp => by
    obtain ⟨i, hi, rfl⟩ := List.mem_iff_getElem.1 hp
    exact (hyes i _ (by omega) (List.getElem?_eq_getElem hi)).keep (Nat.le_refl _) (fun _ _ _ => rfl) (fun b _ hu => ⟨hu.2.1, hu.2.2.1, hu.2.2.2.1, hu.2.2.2.2⟩)⟩
  have hm := hR.hm
  rw [e1, e2, e3, hKl] at key
  rw [e1, e2, e3, hKl] at hm
  exact ⟨A1, c1, A2, c2, A3, c3, hm, key, hbw⟩
theorem row_form {w : World} {B : Nat} {V : Value} {K : List (MCode × Value)} (h : RowC w B V K) (hl : 0 < K.length) : ∃ g cap, V = .slice (some ⟨g, 0, none⟩) K.length cap ∧ B ≤ g := by
  rcases h.2 with ⟨_, h0⟩ | ⟨g, cap, cur, hv, hg, _⟩
  · omega
  · exact ⟨g, cap, hv, hg⟩
theorem row_frame {w : World} {B g n cap : Nat} {K : List (MCode × Value)} (h : RowC w B (.slice (some ⟨g, 0, none⟩) n cap) K) {k : Nat} {p : MCode × Value} (hp : K[k]? = some p) : w.cell? ⟨g, k * 6 + 4, none⟩ = some p.2 ∧ w.frozen? ⟨g, k * 6 + 4, none⟩ = false := by
  have hn : n = K.length := by
    rcases h.2 with ⟨e, _⟩ | ⟨g', cap', cur, e, _⟩
    · cases e
    · injection e
  have hr : w.ownsRow B 46 6 (.slice (some ⟨g, 0, none⟩) n cap) n (K.flatMap cells6) := by have := h; unfold RowC at this; rwa [← hn] at this
  have hk := (List.getElem?_eq_some_iff.1 hp).1
  refine ⟨?_, World.ownsRow.frozenAt hr _⟩
  rw [World.ownsRow.cellAt hr (k * 6 + 4) (by omega), cells6_at hp (by decide)]
  rfl
set_option maxRecDepth 100000 in
set_option maxHeartbeats 8000000 in
theorem copied_o (v : Value) (t : Int) (s : WSt) (w : World) (hm : MemA w w.heap.size v t s) (hln : s.ns.length ≤ 1000) (hlc : s.cs.length ≤ 1000) (hfr : ∀ c ∈ s.ks, c.frame.length ≤ 1000) :
    Calls Tryd.prog 73 #[v] w fun e w' => ∃ v', e = .returned v' ∧ MOwn w' w.heap.size v' t s ∧ Below w.heap.size w w' := by
  obtain ⟨Ac, cc, Ak, ck, Av, cv, rfl, hI1, hI2, hC, hcc, hck, hcv⟩ := hm
  obtain ⟨hkl, pv, hSl, hfs⟩ := hC
  obtain ⟨w1, hw1⟩ : ∃ w1, w1 = (w.alloc (.cells #[.int .i64 t, .slice Ac s.ns.length cc, .slice Ak s.cs.length ck, .slice Av s.ks.length cv] 27)).alloc (.cells #[.int .i64 0, .slice none 0 0, .slice none 0 0, .slice none 0 0] 27) := ⟨_, rfl⟩
  have hb1 : Below w.heap.size w w1 := by rw [hw1]; exact ((Below.refl _ _).alloc (Nat.le_refl _) _).alloc (by simp) _
  have hs1 : w1.heap.size = w.heap.size + 2 := by rw [hw1]; simp
  have hh1 : w1.heap[w.heap.size]? = some (.cells #[.int .i64 t, .slice Ac s.ns.length cc, .slice Ak s.cs.length ck, .slice Av s.ks.length cv] 27 (0, 0)) := by rw [hw1]; exact (Below.heap_alloc _ _ _ (by simp)).trans (heap_alloc_new w _)
  have hh2 : w1.heap[w.heap.size + 1]? = some (.cells #[.int .i64 0, .slice none 0 0, .slice none 0 0, .slice none 0 0] 27 (0, 0)) := by
    have := heap_alloc_new (w.alloc (.cells #[.int .i64 t, .slice Ac s.ns.length cc, .slice Ak s.cs.length ck, .slice Av s.ks.length cv] 27)) (.cells #[.int .i64 0, .slice none 0 0, .slice none 0 0, .slice none 0 0] 27)
    rw [hw1]
    simpa using this
  have b1 := row_cell hh1 1
  have b2 := row_cell hh1 2
  have b3 := row_cell hh1 3
  simp only [List.getElem?_toArray, List.getElem?_cons_succ, List.getElem?_cons_zero] at b1 b2 b3
  have hwf := hw1.symm
  have HSX := Lib.hid hs1
  have HB1 := Lib.hid hb1
  have HH1 : Hid (w1.drew.heap[w.heap.size]? = some (.cells #[.int .i64 t, .slice Ac s.ns.length cc, .slice Ak s.cs.length ck, .slice Av s.ks.length cv] 27 (0, 0))) := hh1
  have HH2 := Lib.hid hh2
  have HIA : Hid (IntsA w1.drew w1.drew.heap.size Ac s.ns) := ((hI1.keep hb1).more hb1.size).drewN 1
  have HIK : Hid (∀ W, Below w1.drew.heap.size w1.drew W → IntsA W W.heap.size Ak s.cs) := fun W hW => by
    have h1 : Below w.heap.size w W := hb1.trans ((Below.refl w1.heap.size w1).drew.trans hW |>.mono (by omega))
    exact (hI2.keep h1).more h1.size
  have HIC : Hid (∀ W, Below w1.drew.heap.size w1.drew W → SlA W W.heap.size 6 Av s.ks.length (codeCell s.ks pv)) := fun W hW => by
    have h1 : Below w.heap.size w W := hb1.trans ((Below.refl w1.heap.size w1).drew.trans hW |>.mono (by omega))
    exact (hSl.below h1 (Nat.le_refl _)).more h1.size
  have HFS := Lib.hid hfs
  have HXX : Hid (∀ W, Below w1.drew.heap.size w1.drew W → W.heap[w.heap.size]? = some (.cells #[.int .i64 t, .slice Ac s.ns.length cc, .slice Ak s.cs.length ck, .slice Av s.ks.length cv] 27 (0, 0))) := fun W hW => (hW.block w.heap.size (by show _ < w1.heap.size; have := HSX.out; omega)).trans HH1.out
  have HP1 : Hid (∀ W, Below w1.drew.heap.size w1.drew W → W.cell? ⟨w.heap.size, 1, none⟩ = some (.slice Ac s.ns.length cc)) := fun W hW => row_cell (HXX.out W hW) 1
  have HP2 : Hid (∀ W, Below w1.drew.heap.size w1.drew W → W.cell? ⟨w.heap.size, 2, none⟩ = some (.slice Ak s.cs.length ck)) := fun W hW => row_cell (HXX.out W hW) 2
  have HP3 : Hid (∀ W, Below w1.drew.heap.size w1.drew W → W.cell? ⟨w.heap.size, 3, none⟩ = some (.slice Av s.ks.length cv)) := fun W hW => row_cell (HXX.out W hW) 3
  have HF : Hid (∀ W, Below w1.drew.heap.size w1.drew W → ∀ k, W.frozen? ⟨w.heap.size, k, none⟩ = false) := fun W hW k => row_frozen (HXX.out W hW) k
  clear hI1 hI2 hSl hfs hb1 hh1 hh2 hw1 hs1
  go_enter Tryd.func73, Tryd.ntmps73
  go_upto_region 1 with fail
  obtain ⟨Z, hZ⟩ : ∃ Z : Option Obj, some (.cells #[.int .i64 0, .slice none 0 0, .slice none 0 0, .slice none 0 0] 27 (0, 0)) = Z := ⟨_, rfl⟩
  have HZZ := Lib.hid hZ
  rw [hZ] at HH2
  clear hZ
  go_cut [4] (fun _ wx => Hid (CpW w w.heap.size w1.drew.heap.size t s pv 0 wx) ∧ Hid (wx.heap[w.heap.size + 1]? = Z))
  case first =>
    have HKL := Lib.hid hkl
    have HEND : Hid (∀ w2 w3 w4 v2 v3 v4, Below w1.drew.heap.size w1.drew w2 → Below w2.heap.size w2 w3 → Below w3.heap.size w3 w4 → OutI w2 w1.drew.heap.size v2 s.ns → OutI w3 w2.heap.size v3 s.cs → RowC w4 w3.heap.size v4 (zipK s.ks pv) →
        Hid (CpW w w.heap.size w1.drew.heap.size t s pv 0 (((w4.setCell ⟨w.heap.size, 1, none⟩ v2).setCell ⟨w.heap.size, 2, none⟩ v3).setCell ⟨w.heap.size, 3, none⟩ v4)) ∧ Hid ((((w4.setCell ⟨w.heap.size, 1, none⟩ v2).setCell ⟨w.heap.size, 2, none⟩ v3).setCell ⟨w.heap.size, 3, none⟩ v4).heap[w.heap.size + 1]? = Z)) := fun w2 w3 w4 v2 v3 v4 h2 h3 h4 hO2 hO3 hO4 => by
      have h14 : Below w1.drew.heap.size w1.drew w4 := h2.trans ((h3.trans (h4.mono h3.size)).mono h2.size)
      refine ⟨cp_start (w1 := w1.drew) rfl HSX.out (HB1.out.trans ((Below.refl w1.heap.size w1).drew.mono (by have := HSX.out; omega))) h2 h3 h4 hO2 hO3 hO4 (HXX.out _ h14) HFS.out, ?_⟩
      have hne : ∀ k v (W : World), (W.setCell ⟨w.heap.size, k, none⟩ v).heap[w.heap.size + 1]? = W.heap[w.heap.size + 1]? := fun k v W => Below.heap_setCell W ⟨w.heap.size, k, none⟩ _ _ (by show w.heap.size + 1 ≠ w.heap.size; omega)
      show (((w4.setCell ⟨w.heap.size, 1, none⟩ v2).setCell ⟨w.heap.size, 2, none⟩ v3).setCell ⟨w.heap.size, 3, none⟩ v4).heap[w.heap.size + 1]? = Z
      rw [hne, hne, hne]
      exact (h14.block _ (by show _ < w1.heap.size; have := HSX.out; omega)).trans HH2.out
    clear HSX HB1 HH1 HH2 HFS hwf hkl hfr HZZ
    go_region_law ((first
      | (refine step_clone _ (by rfl) _ (by rfl) Ac cc s.ns (by rfl) HIA.out hln ?_; intro v2 w2 hO2 hb2; obtain ⟨A2, c2, rfl, _⟩ := hO2.lenV; have HB2 := Lib.hid hb2; have HO2 := Lib.hid hO2; have p22 := HP2.out _ HB2.out; have p23 := HP3.out _ HB2.out; clear b1 b2 b3 hb2 hO2)
      | (refine step_clone _ (by rfl) _ (by rfl) Ak ck s.cs (by rfl) (HIK.out _ HB2.out) hlc ?_; intro v3 w3 hO3 hb3; obtain ⟨A3, c3, rfl, _⟩ := hO3.lenV; have HB3 := Lib.hid (HB2.out.trans (hb3.mono HB2.out.size)); have HB3' := Lib.hid hb3; have HO3 := Lib.hid hO3; have p33 := HP3.out _ HB3.out; clear p22 p23 hb3 hO3)
      | (refine step_clones _ (by rfl) _ (by rfl) Av cv s.ks pv (by rfl) (HIC.out _ HB3.out) HKL.out ?_; intro v4 w4 hO4 hb4; obtain ⟨A4, c4, rfl, _⟩ := hO4.lenV; have HB4 := Lib.hid (HB3.out.trans (hb4.mono HB3.out.size)); have HB4' := Lib.hid hb4; have HO4 := Lib.hid hO4; have p41 := HP1.out _ HB4.out; have p42 := HP2.out _ HB4.out; have p43 := HP3.out _ HB4.out; have f41 := HF.out _ HB4.out 1; have f42 := HF.out _ HB4.out 2; have f43 := HF.out _ HB4.out 3; clear p33 hb4 hO4)))
    all_goals
      go_wp2_with fail
      go_meet
      first
      | exact HEND.out _ _ _ _ _ _ HB2.out HB3'.out HB4'.out HO2.out HO3.out HO4.out
  case rest =>
    obtain ⟨HCP0, HZ0⟩ := hcut
    clear HIA HIK HIC HXX HP1 HP2 HP3 HF HH1 HH2 hwf b1 b2 b3
    obtain ⟨VC, VK, V, K, hK, hR, _, _, hRow, _⟩ := HCP0.out
    have hKl : K.length = s.ks.length := by rw [← hK, List.length_map]
    obtain ⟨Av', cv', rfl, _⟩ := hRow.lenV
    rw [hKl] at hR
    have c3 := row_cell hR.hm 3
    simp only [List.getElem?_toArray, List.getElem?_cons_succ, List.getElem?_cons_zero] at c3
    have hkm : s.ks.length ≤ maxLen := by unfold maxLen; omega
    clear hR hRow hKl hK
    go_wp2_with fail
    go_loopw [3, 19] (fun _ v19 wr => ∃ k : Nat, k ≤ s.ks.length ∧ v19 = .int .i64 k ∧ Hid (CpW w w.heap.size w1.drew.heap.size t s pv k wr) ∧ Hid (wr.heap[w.heap.size + 1]? = Z)) (fun _ v19 _ => s.ks.length - (intOf v19).toNat)
    case atStart => exact ⟨0, Nat.zero_le _, rfl, HCP0, HZ0⟩
    case round =>
      obtain ⟨k, hk, rfl, HCP, HZ⟩ := hrel
      rename World => wr
      clear c3 HCP0 HZ0
      by_cases hlt : k < s.ks.length
      · obtain ⟨VC, VK, V, K, hK, hR, hC, hV, hRow, hno, hyes, hbw⟩ := HCP.out
        have hKl : K.length = s.ks.length := by rw [← hK, List.length_map]
        obtain ⟨g, cap, rfl, hgB⟩ := row_form hRow (by omega)
        have hp : K[k]? = some (K[k]'(by omega)) := List.getElem?_eq_getElem (by omega)
        obtain ⟨p, hpe⟩ : ∃ p, K[k]'(by omega) = p := ⟨_, rfl⟩
        rw [hpe] at hp
        clear hpe
        have hp1 : p.1 = s.ks.getD k dCode := by
          rw [← hK, List.getD_eq_getElem?_getD, List.getElem?_map, hp]; rfl
        have hpf := HFS.out k hlt
        rw [← hp1] at hpf
        have hpl : p.1.frame.length ≤ 1000 := by rw [hp1]; exact hfr _ (getD_mem hlt)
        obtain ⟨c4, f4⟩ := row_frame hRow hp
        rw [hno k p (Nat.le_refl _) hp] at c4
        have c3 := row_cell hR.hm 3
        simp only [List.getElem?_toArray, List.getElem?_cons_succ, List.getElem?_cons_zero] at c3
        rw [hKl] at c3
        have HIF : Hid (IntsA wr.drew wr.drew.heap.size (pv k).1 p.1.frame) := ((hpf.2.keep hbw).more hbw.size).drewN 1
        obtain ⟨cA, hcA⟩ : ∃ a, (pv k).1 = a := ⟨_, rfl⟩
        obtain ⟨cC, hcC⟩ : ∃ a, (pv k).2 = a := ⟨_, rfl⟩
        rw [hcA, hcC] at c4
        rw [hcA] at HIF
        have hBr : w1.heap.size ≤ wr.heap.size := by
          have := (own_block_lt hRow g rfl).2
          have hgB : w1.heap.size ≤ g := hgB
          omega
        have hgl := (own_block_lt hRow g rfl).2
        have HST : Hid (∀ v w2, Below wr.heap.size wr w2 → OutI w2 wr.heap.size v p.1.frame → CpW w w.heap.size w1.drew.heap.size t s pv (k + 1) (w2.setCell ⟨g, k * 6 + 4, none⟩ v) ∧ (w2.setCell ⟨g, k * 6 + 4, none⟩ v).heap[w.heap.size + 1]? = Z) := fun v w2 h2 hO =>
          ⟨cp_step (by show _ ≤ w1.heap.size; have := HSX.out; omega) (by show _ < w1.heap.size; have := HSX.out; omega) (by exact hBr) hK hR hC hV hRow hno hyes hbw hp h2 hO hpl, (Below.heap_setCell w2 ⟨g, k * 6 + 4, none⟩ _ _ (by have := HSX.out; have hgB : w1.heap.size ≤ g := hgB; show w.heap.size + 1 ≠ g; omega)).trans ((h2.block _ (by have := HSX.out; omega)).trans HZ.out)⟩
        have hbs : w.heap.size < wr.heap.size := by have := HSX.out; omega
        have hlK : K.length = s.ks.length := hKl
        clear hK hR hC hV hRow hno hyes hbw HCP hp hp1 hpf hcA hcC hKl hlK HZ
        go_upto_region 5 with fail
        go_region_law ((first
            | (refine step_clone _ (by rfl) _ (by rfl) cA cC p.1.frame (by rfl) HIF.out hpl ?_; intro v2 w2 hO2 hb2; have HO2 := Lib.hid hO2; have HB2 : Hid (Below wr.heap.size wr w2) := (Below.refl wr.heap.size wr).drew.trans hb2; have q4 : w2.cell? ⟨g, k * 6 + 4, none⟩ = some (.slice cA p.1.frame.length cC) := (bcell HB2.out _ _ hgl).trans c4; have q3 := (bcell HB2.out w.heap.size 3 hbs).trans c3; have g4 : w2.frozen? ⟨g, k * 6 + 4, none⟩ = false := (bfrozen HB2.out _ _ hgl).trans f4; obtain ⟨A2, c2, rfl, _⟩ := hO2.lenV; clear c4 c3 f4 hb2 hO2)))
        all_goals
          obtain ⟨HCP1, HZ1⟩ := HST.out _ _ HB2.out HO2.out
          have HCP1 := Lib.hid HCP1
          have HZ1 := Lib.hid HZ1
          clear HST HIF HO2 q3 q4 g4
          go_wp2_with fail
          go_roundw
          case rel => exact ⟨k + 1, by omega, by go_num, HCP1, HZ1⟩
          case measure => simp [intOf]; omega
      · obtain rfl : k = s.ks.length := by omega
        obtain ⟨A1, c1, A2, c2, A3, c3, h9, hMO, hbw⟩ := cp_end HCP.out
        have z0 := row_cell h9 0
        have z1 := row_cell h9 1
        have z2 := row_cell h9 2
        have z3 := row_cell h9 3
        simp only [List.getElem?_toArray, List.getElem?_cons_succ, List.getElem?_cons_zero] at z0 z1 z2 z3
        have hz := HZ.out
        rw [← HZZ.out] at hz
        have y0 := row_cell hz 0
        have y1 := row_cell hz 1
        have y2 := row_cell hz 2
        have y3 := row_cell hz 3
        have x0 := row_frozen hz 0
        have x1 := row_frozen hz 1
        have x2 := row_frozen hz 2
        have x3 := row_frozen hz 3
        simp only [List.getElem?_toArray, List.getElem?_cons_succ, List.getElem?_cons_zero] at y0 y1 y2 y3
        have HBW := Lib.hid hbw
        have HZY := Lib.hid hz
        clear h9 hbw hz
        have hMO := Lib.hid hMO
        have HHP := Lib.hid (put4 (a' := .int .i64 t) (b' := .slice A1 s.ns.length c1) (c' := .slice A2 s.cs.length c2) (d' := .slice A3 s.ks.length c3) HZY.out)
        go_wp2_with fail
        (try simp only [Exit.then, Exit.inBlock])
        obtain ⟨d, hu⟩ := mem_under
        refine bodyPost_ret (results_cell_row rfl _ _ (w.heap.size + 1) 27 _ (0, 0) (.struct d) rfl HHP.out hu rfl mem_info) rfl ⟨_, rfl, ?_, below_put4 HBW.out (Nat.le_succ _) _ _ _ _⟩
        exact (MOwn.keepH hMO.out (fun b hb _ => heap_put4 (by have hb : w1.heap.size ≤ b := hb; have := HSX.out; omega) _ _ _ _) (by simp)).base (by show _ ≤ w1.heap.size; have := HSX.out; omega)
end Go.Proofs.YtonpemikodajdaaDoor
