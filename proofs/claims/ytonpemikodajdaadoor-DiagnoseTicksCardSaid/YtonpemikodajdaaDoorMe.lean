/- The reference's memory: where its parts lie, and what a store makes of them. -/
import Derived.Test.YtonpemikodajdaaDoorMb
namespace Go.Proofs.YtonpemikodajdaaDoor
open Go.RowKit

theorem own_keep {w w' : World} {base e size n : Nat} {v : Value} {xs : List Value} (h : w.ownsRow base e size v n xs) (hk : ∀ g, v.ownBlock = some g → w'.heap[g]? = w.heap[g]?) : w'.ownsRow base e size v n xs := by
  obtain ⟨h1, h2⟩ := h
  refine ⟨h1, ?_⟩
  rcases h2 with h2 | ⟨g, cap, cur, hv, hg, hb, r⟩
  · exact .inl h2
  · exact .inr ⟨g, cap, cur, hv, hg, (hk g (by rw [hv]; rfl)).trans hb, r⟩
theorem OutI.keepB {w w' : World} {B : Nat} {V : Value} {l : List Int} (h : OutI w B V l) (hk : ∀ g, V.ownBlock = some g → w'.heap[g]? = w.heap[g]?) : OutI w' B V l := own_keep h hk
theorem OutI.setAt {w : World} {B g n c : Nat} {l : List Int} (h : OutI w B (.slice (some ⟨g, 0, none⟩) n c) l) (i : Nat) (x : Int) : OutI (w.setCell ⟨g, i, none⟩ (.int .i64 x)) B (.slice (some ⟨g, 0, none⟩) n c) (l.set i x) := by
  have hn : n = l.length := by
    rcases h.2 with ⟨e, _⟩ | ⟨g', cap', cur, e, _⟩
    · cases e
    · injection e
  subst hn
  have h1 := (World.ownsRow.stored (show w.ownsRow B 3 1 (.slice (some ⟨g, 0, none⟩) l.length c) l.length _ from h) i (.int .i64 x)).1
  unfold OutI
  rw [List.length_set, List.map_set]
  exact h1
theorem OutI.form {w : World} {B : Nat} {V : Value} {l : List Int} (h : OutI w B V l) (hl : 0 < l.length) : ∃ g cap, V = .slice (some ⟨g, 0, none⟩) l.length cap ∧ B ≤ g ∧ g < w.heap.size := by
  rcases h.2 with ⟨_, h0⟩ | ⟨g, cap, cur, hv, hg, hh, _⟩
  · omega
  · refine ⟨g, cap, hv, hg, ?_⟩
    rcases Nat.lt_or_ge g w.heap.size with hlt | hge
    · exact hlt
    · rw [Array.getElem?_eq_none hge] at hh; cases hh
theorem OutI.cellI {w : World} {B g n c : Nat} {l : List Int} (h : OutI w B (.slice (some ⟨g, 0, none⟩) n c) l) {i : Nat} (hi : i < l.length) : w.cell? ⟨g, i, none⟩ = some (.int .i64 (l.getD i 0)) ∧ w.frozen? ⟨g, i, none⟩ = false := by
  have hn : n = l.length := by
    rcases h.2 with ⟨e, _⟩ | ⟨g', cap', cur, e, _⟩
    · cases e
    · injection e
  subst hn
  have hr : w.ownsRow B 3 1 (.slice (some ⟨g, 0, none⟩) l.length c) l.length (l.map (Value.int .i64)) := h
  refine ⟨?_, World.ownsRow.frozenAt hr _⟩
  rw [World.ownsRow.cellAt hr i (by omega), List.getElem?_map, List.getElem?_eq_getElem hi, List.getD_eq_getElem?_getD, List.getElem?_eq_getElem hi]
  rfl
def RU (B mb : Nat) (VC VK V : Value) (b : Nat) : Prop := b ≠ mb ∧ VC.ownBlock ≠ some b ∧ VK.ownBlock ≠ some b ∧ V.ownBlock ≠ some b ∧ B ≤ b
/-- the reference's memory at block mb -/
structure RS (w : World) (B mb : Nat) (t : Int) (VC : Value) (ns : List Int) (VK : Value) (cs : List Int) (V : Value) (K : List (MCode × Value)) : Prop where
  hm : w.heap[mb]? = some (.cells #[.int .i64 t, VC, VK, V] 27 (0, 0))
  bm : B ≤ mb
  cnt : OutI w B VC ns
  clm : OutI w B VK cs
  row : RowC w B V K
  nc : VC.ownBlock ≠ some mb
  nk : VK.ownBlock ≠ some mb
  nv : V.ownBlock ≠ some mb
  d1 : ∀ g, VC.ownBlock = some g → VK.ownBlock ≠ some g
  d2 : ∀ g, VC.ownBlock = some g → V.ownBlock ≠ some g
  d3 : ∀ g, VK.ownBlock = some g → V.ownBlock ≠ some g
  frames : ∀ p ∈ K, FrameU w (RU B mb VC VK V) p
section
variable {w w' : World} {B mb : Nat} {t : Int} {VC : Value} {ns : List Int} {VK : Value} {cs : List Int} {V : Value} {K : List (MCode × Value)}
theorem RS.g (h : RS w B mb t VC ns VK cs V K) (k : Nat) : w.cell? ⟨mb, k, none⟩ = (#[.int .i64 t, VC, VK, V] : Array Value)[k]? := row_cell h.hm k
theorem RS.fz (h : RS w B mb t VC ns VK cs V K) (k : Nat) : w.frozen? ⟨mb, k, none⟩ = false := row_frozen h.hm k
theorem RS.lt (h : RS w B mb t VC ns VK cs V K) : mb < w.heap.size := lt_of_block h.hm
theorem RS.below (h : RS w B mb t VC ns VK cs V K) {B' : Nat} (hb : Below B' w w') (hB : w.heap.size ≤ B') : RS w' B mb t VC ns VK cs V K := by
  have hlt := h.lt
  have h1 := own_block_lt h.cnt
  have h2 := own_block_lt h.clm
  have h3 := own_block_lt h.row
  exact ⟨(hb.block mb (by omega)).trans h.hm, h.bm, own_below h.cnt hb (fun k hk => by have := (h1 k hk).2; omega), own_below h.clm hb (fun k hk => by have := (h2 k hk).2; omega), own_below h.row hb (fun k hk => by have := (h3 k hk).2; omega), h.nc, h.nk, h.nv, h.d1, h.d2, h.d3, fun p hp => (h.frames p hp).keep hb.size (fun b hb' _ => hb.block b (by omega)) (fun _ _ hu => hu)⟩
theorem RS.setCnt {g n c : Nat} (h : RS w B mb t (.slice (some ⟨g, 0, none⟩) n c) ns VK cs V K) (i : Nat) (x : Int) : RS (w.setCell ⟨g, i, none⟩ (.int .i64 x)) B mb t (.slice (some ⟨g, 0, none⟩) n c) (ns.set i x) VK cs V K := by
  have hx : ∀ b, b ≠ g → (w.setCell ⟨g, i, none⟩ (.int .i64 x)).heap[b]? = w.heap[b]? := fun b hb => Below.heap_setCell w ⟨g, i, none⟩ _ b hb
  refine ⟨(hx mb (fun e => h.nc (by rw [e]; rfl))).trans h.hm, h.bm, h.cnt.setAt i x, h.clm.keepB (fun b hb => hx b (fun e => h.d1 g rfl (by rw [hb, e]))), own_keep h.row (fun b hb => hx b (fun e => h.d2 g rfl (by rw [hb, e]))), h.nc, h.nk, h.nv, h.d1, h.d2, h.d3, fun p hp => (h.frames p hp).keep (by simp) (fun b _ hu => hx b (fun e => hu.2.1 (by rw [e]; rfl))) (fun _ _ hu => hu)⟩
theorem RS.setClm {g n c : Nat} (h : RS w B mb t VC ns (.slice (some ⟨g, 0, none⟩) n c) cs V K) (i : Nat) (x : Int) : RS (w.setCell ⟨g, i, none⟩ (.int .i64 x)) B mb t VC ns (.slice (some ⟨g, 0, none⟩) n c) (cs.set i x) V K := by
  have hx : ∀ b, b ≠ g → (w.setCell ⟨g, i, none⟩ (.int .i64 x)).heap[b]? = w.heap[b]? := fun b hb => Below.heap_setCell w ⟨g, i, none⟩ _ b hb
  refine ⟨(hx mb (fun e => h.nk (by rw [e]; rfl))).trans h.hm, h.bm, h.cnt.keepB (fun b hb => hx b (fun e => h.d1 b hb (by rw [e]; rfl))), h.clm.setAt i x, own_keep h.row (fun b hb => hx b (fun e => h.d3 g rfl (by rw [hb, e]))), h.nc, h.nk, h.nv, h.d1, h.d2, h.d3, fun p hp => (h.frames p hp).keep (by simp) (fun b _ hu => hx b (fun e => hu.2.2.1 (by rw [e]; rfl))) (fun _ _ hu => hu)⟩
theorem RS.setTick (h : RS w B mb t VC ns VK cs V K) (t' : Int) : RS (w.setCell ⟨mb, 0, none⟩ (.int .i64 t')) B mb t' VC ns VK cs V K := by
  have hx : ∀ b, b ≠ mb → (w.setCell ⟨mb, 0, none⟩ (.int .i64 t')).heap[b]? = w.heap[b]? := fun b hb => Below.heap_setCell w ⟨mb, 0, none⟩ _ b hb
  refine ⟨?_, h.bm, h.cnt.keepB (fun b hb => hx b (fun e => h.nc (by rw [hb, e]))), h.clm.keepB (fun b hb => hx b (fun e => h.nk (by rw [hb, e]))), own_keep h.row (fun b hb => hx b (fun e => h.nv (by rw [hb, e]))), h.nc, h.nk, h.nv, h.d1, h.d2, h.d3, fun p hp => (h.frames p hp).keep (by simp) (fun b _ hu => hx b hu.1) (fun _ _ hu => hu)⟩
  rw [heap_setCell_same w mb 0 _ 27 _ h.hm]; rfl
/-- another row of codes is put in -/
theorem RS.putRow (h : RS w B mb t VC ns VK cs V K) (hg : w.grownBy w' V.ownBlock) {g n cap : Nat} {K' : List (MCode × Value)} (hR : RowC w' B (.slice (some ⟨g, 0, none⟩) n cap) K') (hat : V.ownBlock = some g ∨ w.heap.size ≤ g) (hsub : ∀ q ∈ K', q ∈ K ∨ FrameU w (RU B mb VC VK V) q) :
    RS (w'.setCell ⟨mb, 3, none⟩ (.slice (some ⟨g, 0, none⟩) n cap)) B mb t VC ns VK cs (.slice (some ⟨g, 0, none⟩) n cap) K' := by
  have hlt := h.lt
  have l1 := own_block_lt h.cnt
  have l2 := own_block_lt h.clm
  have hgm : g ≠ mb := fun e => by
    rcases hat with ha | ha
    · exact h.nv (by rw [ha, e])
    · omega
  have hgc : ∀ b, VC.ownBlock = some b → b ≠ g := fun b hb e => by
    rcases hat with ha | ha
    · exact h.d2 b hb (by rw [ha, e])
    · have := (l1 b hb).2; omega
  have hgk : ∀ b, VK.ownBlock = some b → b ≠ g := fun b hb e => by
    rcases hat with ha | ha
    · exact h.d3 b hb (by rw [ha, e])
    · have := (l2 b hb).2; omega
  have hx : ∀ b, b < w.heap.size → b ≠ mb → V.ownBlock ≠ some b → (w'.setCell ⟨mb, 3, none⟩ (.slice (some ⟨g, 0, none⟩) n cap)).heap[b]? = w.heap[b]? := fun b hb h1 h2 => (Below.heap_setCell w' ⟨mb, 3, none⟩ _ b h1).trans (hg.block b hb (fun e => h2 e.symm))
  have hh := (hg.block mb hlt (fun e => h.nv e.symm)).trans h.hm
  have hU : ∀ b, b < w.heap.size → RU B mb VC VK V b → RU B mb VC VK (.slice (some ⟨g, 0, none⟩) n cap) b := fun b hb hu => ⟨hu.1, hu.2.1, hu.2.2.1, fun e => (by
    have e : some g = some b := e
    injection e with e
    subst e
    rcases hat with ha | ha
    · exact hu.2.2.2.1 ha
    · omega), hu.2.2.2.2⟩
  refine ⟨?_, h.bm, h.cnt.keepB (fun b hb => hx b (l1 b hb).2 (fun e => h.nc (by rw [hb, e])) (h.d2 b hb)), h.clm.keepB (fun b hb => hx b (l2 b hb).2 (fun e => h.nk (by rw [hb, e])) (h.d3 b hb)), own_keep hR (fun b hb => ?_), h.nc, h.nk, (fun e => ?_), h.d1, (fun b hb e => ?_), (fun b hb e => ?_), fun q hq => ?_⟩
  · rw [heap_setCell_same w' mb 3 _ 27 _ hh]; rfl
  · have e : some g = some b := hb
    injection e with e
    subst e
    exact Below.heap_setCell w' ⟨mb, 3, none⟩ _ _ hgm
  · have e : some g = some mb := e
    injection e with e
    exact hgm e
  · have e : some g = some b := e
    injection e with e
    exact hgc b hb e.symm
  · have e : some g = some b := e
    injection e with e
    exact hgk b hb e.symm
  · have hf : FrameU w (RU B mb VC VK V) q := by
      rcases hsub q hq with h1 | h1
      · exact h.frames q h1
      · exact h1
    exact hf.keep (by simpa using hg.size) (fun b hb hu => hx b hb hu.1 hu.2.2.2.1) hU
/-- a code's cells are stored -/
theorem RS.setK {g n cap : Nat} (h : RS w B mb t VC ns VK cs (.slice (some ⟨g, 0, none⟩) n cap) K) (j : Nat) (hj : j < K.length) (q : MCode × Value) (hq : FrameU w (RU B mb VC VK (.slice (some ⟨g, 0, none⟩) n cap)) q) :
    RS (w.setCells g (j * 6) (cells6 q)) B mb t VC ns VK cs (.slice (some ⟨g, 0, none⟩) n cap) (K.set j q) := by
  have hn : n = K.length := by
    rcases h.row.2 with ⟨e, _⟩ | ⟨g', cap', cur, e, _⟩
    · cases e
    · injection e
  obtain ⟨o1, g1⟩ := own_setCells (cells6 q) (j * 6) w _ (show w.ownsRow B 46 6 (.slice (some ⟨g, 0, none⟩) n cap) n (K.flatMap cells6) by have := h.row; unfold RowC at this; rwa [← hn] at this)
  have hx : ∀ b, b < w.heap.size → b ≠ g → (w.setCells g (j * 6) (cells6 q)).heap[b]? = w.heap[b]? := fun b hb hne => g1.block b hb (fun e => by injection e with e; exact hne e)
  have hc : putMany (K.flatMap cells6) (j * 6) (cells6 q) = (K.set j q).flatMap cells6 := by
    have hc6 : (cells6 q).length = 6 := rfl
    have hl := cells6_len K
    rw [putMany_eq _ _ _ (by omega), List.set_eq_take_append_cons_drop, if_pos hj, List.flatMap_append, List.flatMap_cons]
    have e1 : (K.flatMap cells6).take (j * 6) = (K.take j).flatMap cells6 := by
      conv => lhs; rw [← List.take_append_drop j K, List.flatMap_append]
      exact List.take_left' (by rw [cells6_len, List.length_take]; omega)
    have e2 : (K.flatMap cells6).drop (j * 6 + (cells6 q).length) = (K.drop (j + 1)).flatMap cells6 := by
      conv => lhs; rw [← List.take_append_drop (j + 1) K, List.flatMap_append]
      exact List.drop_left' (by rw [cells6_len, List.length_take, hc6]; omega)
    rw [e1, e2, List.append_assoc]
  have l1 := own_block_lt h.cnt
  have l2 := own_block_lt h.clm
  refine ⟨(hx mb h.lt (fun e => h.nv (by rw [e]; rfl))).trans h.hm, h.bm, h.cnt.keepB (fun b hb => hx b (l1 b hb).2 (fun e => h.d2 b hb (by rw [e]; rfl))), h.clm.keepB (fun b hb => hx b (l2 b hb).2 (fun e => h.d3 b hb (by rw [e]; rfl))), ?_, h.nc, h.nk, h.nv, h.d1, h.d2, h.d3, fun p hp => ?_⟩
  · unfold RowC
    rw [List.length_set, ← hn, ← hc]
    exact o1
  · have hf : FrameU w (RU B mb VC VK (.slice (some ⟨g, 0, none⟩) n cap)) p := by
      rcases mem_set_or hp with rfl | hp
      · exact hq
      · exact h.frames p hp
    exact hf.keep g1.size (fun b hb hu => hx b hb (fun e => hu.2.2.2.1 (by rw [e]; rfl))) (fun _ _ hu => hu)
/-- a cell of a code is stored, but not its frame -/
theorem RS.setCode {g n cap : Nat} (h : RS w B mb t VC ns VK cs (.slice (some ⟨g, 0, none⟩) n cap) K) {ix : Nat} {p p' : MCode × Value} (hp : K[ix]? = some p) {j : Nat} (hj : j < 6) {u : Value} (hc : cells6 p' = (cells6 p).set j u) (hf : p'.2 = p.2 ∧ p'.1.frame = p.1.frame) :
    RS (w.setCell ⟨g, ix * 6 + j, none⟩ u) B mb t VC ns VK cs (.slice (some ⟨g, 0, none⟩) n cap) (K.set ix p') := by
  have hn : n = K.length := by
    rcases h.row.2 with ⟨e, _⟩ | ⟨g', cap', cur, e, _⟩
    · cases e
    · injection e
  have hx : ∀ b, b ≠ g → (w.setCell ⟨g, ix * 6 + j, none⟩ u).heap[b]? = w.heap[b]? := fun b hb => Below.heap_setCell w ⟨g, ix * 6 + j, none⟩ _ b hb
  have h9 := (World.ownsRow.stored (show w.ownsRow B 46 6 (.slice (some ⟨g, 0, none⟩) n cap) n (K.flatMap cells6) by have := h.row; unfold RowC at this; rwa [← hn] at this) (ix * 6 + j) u).1
  refine ⟨(hx mb (fun e => h.nv (by rw [e]; rfl))).trans h.hm, h.bm, h.cnt.keepB (fun b hb => hx b (fun e => h.d2 b hb (by rw [e]; rfl))), h.clm.keepB (fun b hb => hx b (fun e => h.d3 b hb (by rw [e]; rfl))), ?_, h.nc, h.nk, h.nv, h.d1, h.d2, h.d3, fun q hq => ?_⟩
  · unfold RowC
    rw [cells6_set hp hj hc, List.length_set, ← hn]
    exact h9
  · have hfr : ∀ q, FrameU w (RU B mb VC VK (.slice (some ⟨g, 0, none⟩) n cap)) q → FrameU (w.setCell ⟨g, ix * 6 + j, none⟩ u) (RU B mb VC VK (.slice (some ⟨g, 0, none⟩) n cap)) q := fun q hq => hq.keep (by simp) (fun b _ hu => hx b (fun e => hu.2.2.2.1 (by rw [e]; rfl))) (fun _ _ hu => hu)
    rcases mem_set_or hq with rfl | hq
    · obtain ⟨Af, cf, h1, h2, h3, h4⟩ := hfr p (h.frames p (List.mem_of_getElem? hp))
      exact ⟨Af, cf, by rw [hf.1, hf.2]; exact h1, by rw [hf.2]; exact h2, by rw [hf.2]; exact h3, by rw [hf.2]; exact h4⟩
    · exact hfr q (h.frames q hq)
theorem RS.codes (h : RS w B mb t VC ns VK cs V K) (hl : K.length ≤ 1000000) : ∃ A cap, V = .slice A K.length cap ∧ K.length ≤ cap ∧ CodesA w w.heap.size A (K.map Prod.fst) := by
  obtain ⟨A, cap, e, hc⟩ := h.row.lenV
  refine ⟨A, cap, e, hc, ?_⟩
  have h1 := h.row
  rw [e] at h1
  exact RowC.codes h1 h.frames hl
theorem RS.mem (h : RS w B mb t VC ns VK cs V K) (hl : K.length ≤ 1000000) : MemA w w.heap.size (.agg #[.int .i64 t, VC, VK, V]) t ⟨ns, cs, K.map Prod.fst⟩ := by
  obtain ⟨A, cap, e, hc, hC⟩ := h.codes hl
  obtain ⟨A1, c1, e1, h1, hI1⟩ := h.cnt.reads
  obtain ⟨A2, c2, e2, h2, hI2⟩ := h.clm.reads
  exact ⟨A1, c1, A2, c2, A, cap, by rw [e, e1, e2, ← List.length_map (f := Prod.fst)], hI1, hI2, hC, h1, h2, by simpa using hc⟩
theorem RS.codeCell {g n cap : Nat} (h : RS w B mb t VC ns VK cs (.slice (some ⟨g, 0, none⟩) n cap) K) {ix : Nat} {p : MCode × Value} (hp : K[ix]? = some p) (j : Nat) (hj : j < 6) : w.cell? ⟨g, ix * 6 + j, none⟩ = (cells6 p)[j]? ∧ w.frozen? ⟨g, ix * 6 + j, none⟩ = false := by
  have hn : n = K.length := by
    rcases h.row.2 with ⟨e, _⟩ | ⟨g', cap', cur, e, _⟩
    · cases e
    · injection e
  subst hn
  have hix : ix < K.length := (List.getElem?_eq_some_iff.1 hp).1
  have hr : w.ownsRow B 46 6 (.slice (some ⟨g, 0, none⟩) K.length cap) K.length (K.flatMap cells6) := h.row
  exact ⟨(World.ownsRow.cellAt hr (ix * 6 + j) (by omega)).trans (cells6_at hp hj), World.ownsRow.frozenAt hr _⟩
theorem RS.form (h : RS w B mb t VC ns VK cs V K) (hK : 0 < K.length) : ∃ g cap, V = .slice (some ⟨g, 0, none⟩) K.length cap ∧ B ≤ g ∧ g < w.heap.size := by
  rcases id h.row.2 with ⟨_, h0⟩ | ⟨g, cap, cur, hv, hg, hh, r⟩
  · omega
  · exact ⟨g, cap, hv, hg, lt_of_block hh⟩
end
end Go.Proofs.YtonpemikodajdaaDoor
