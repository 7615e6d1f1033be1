/- Walks: Begin and Tick, ours and the reference's. -/
import Derived.Test.YtonpemikodajdaaDoorNb
import Derived.Test.YtonpemikodajdaaDoorLw
import Derived.Test.YtonpemikodajdaaDoorPf
namespace Go.Proofs.YtonpemikodajdaaDoor
open Go.RowKit

theorem FOk.frOk {l : List MMon} {t : Int} {s : WSt} (h : FOk l t s) : FrOk s := fun c hc => by
  have h1 := (h.codes c hc).2.2
  unfold lawB inB at h1
  simp only [Bool.and_eq_true, decide_eq_true_eq] at h1
  omega
theorem MOwn.form {w : World} {B : Nat} {v : Value} {t : Int} {s : WSt} (h : MOwn w B v t s) : ∃ A1 c1 A2 c2 A3 c3, v = .agg #[.int .i64 t, .slice A1 s.ns.length c1, .slice A2 s.cs.length c2, .slice A3 s.ks.length c3] := by
  obtain ⟨VC, VK, V, K, rfl, h1, h2, h3, h4, _⟩ := h
  have hlK : K.length = s.ks.length := by rw [← h1, List.length_map]
  obtain ⟨A, cap, e, _⟩ := h4.lenV
  obtain ⟨A1, c1, e1, _⟩ := h2.reads
  obtain ⟨A2, c2, e2, _⟩ := h3.reads
  exact ⟨A1, c1, A2, c2, A, cap, by rw [e, e1, e2, hlK]⟩
theorem own_WT {w w' : World} {B wb : Nat} {t : Int} {s : WSt} {A1 A2 A3 A : Option Addr} {c1 c2 c3 lc : Nat} {l : List MMon} (h : MOwn w B (.agg #[.int .i64 t, .slice A1 s.ns.length c1, .slice A2 s.cs.length c2, .slice A3 s.ks.length c3]) t s)
    (hn : s.ns.length = l.length) (hc : s.cs.length = l.length) (h0 : 0 < l.length) (hwb : w.heap.size ≤ wb) (hB : B ≤ w.heap.size) (hb : Below w.heap.size w w') (hm : MonsA w' B A l)
    (hh : w'.heap[wb]? = some (.cells #[.slice A l.length lc, .int .i64 t, .slice A1 s.ns.length c1, .slice A2 s.cs.length c2, .slice A3 s.ks.length c3] 88 (0, 0))) : ∃ gC gK, WT w' B wb A (lc, c1, c2) l t gC gK s := by
  obtain ⟨VC, VK, V, K, e, h1, h2, h3, h4, h5, h6, h7, h8⟩ := h
  injection e with e
  simp only [Array.mk.injEq, List.cons.injEq, and_true, true_and] at e
  obtain ⟨rfl, rfl, rfl⟩ := e
  have l2 := own_block_lt h2
  have l3 := own_block_lt h3
  have l4 := own_block_lt h4
  have hs := hb.size
  obtain ⟨gC, rfl, hgC, oC⟩ := OutI.ownF h2 (by omega)
  obtain ⟨gK, rfl, hgK, oK⟩ := OutI.ownF h3 (by omega)
  have lC := (l2 gC rfl).2
  have lK := (l3 gK rfl).2
  rw [hn] at oC hh
  rw [hc] at oK hh
  refine ⟨gC, gK, hn, hc, .slice A3 s.ks.length c3, K, h1, ⟨hh, hm, by omega, hgC, hgK, by omega, by omega, fun e => h5 gC rfl (by rw [e]; rfl), oC.below hb lC, oK.below hb lK, own_below h4 hb (fun k hk => (l4 k hk).2), fun g hg => ⟨by have := (l4 g hg).2; omega, fun e => h6 gC rfl (by rw [hg, e]), fun e => h7 gK rfl (by rw [hg, e])⟩, fun p hp => ?_⟩⟩
  exact (h8 p hp).keep hs (fun b hb' _ => hb.block b hb') (fun b hb' hu => ⟨by omega, fun e => hu.1 (by rw [e]; rfl), fun e => hu.2.1 (by rw [e]; rfl), fun e => hu.2.2.1 e.symm, hu.2.2.2⟩)
set_option maxRecDepth 100000 in
set_option maxHeartbeats 1000000 in
theorem tick_nil (wb : Nat) (A : Option Addr) (lc : Nat) (t : Int) (V1 V2 V3 : Value) (R : Option Addr) (rn rc : Nat) (w : World) (ht : 0 ≤ t ∧ t ≤ 1000000) (hh : w.heap[wb]? = some (.cells #[.slice A 0 lc, .int .i64 t, V1, V2, V3] 88 (0, 0))) :
    Calls Tryd.prog 53 #[.pointer (some ⟨wb, 0, none⟩), .slice R rn rc] w fun e w' => e = .returned (.tuple #[]) ∧ w' = w.setCell ⟨wb, 1, none⟩ (.int .i64 (t + 1)) := by
  have b0 := row_cell hh 0
  have b1 := row_cell hh 1
  have f1 := row_frozen hh 1
  simp only [List.getElem?_toArray, List.getElem?_cons_succ, List.getElem?_cons_zero] at b0 b1
  clear hh
  go_enter Tryd.func53, Tryd.ntmps53
  go_wp2_with fail
  go_loopw [12] (fun vi wr => vi = .int .i64 0 ∧ wr = w) (fun _ _ => 0)
  case atStart => exact ⟨rfl, rfl⟩
  case round =>
    obtain ⟨rfl, rfl⟩ := hrel
    go_wp2_with fail
    go_end0
    exact ⟨rfl, rfl⟩
theorem steps_nil {t : Int} {row : List Int} {s : WSt} : tickOf [] t row s = s := rfl
/-- a memory whose parts are new from B on -/
def MemN (w : World) (B : Nat) (v : Value) (t : Int) (s : WSt) : Prop :=
  ∀ W : World, w.heap.size ≤ W.heap.size → (∀ b, B ≤ b → b < w.heap.size → W.heap[b]? = w.heap[b]?) → MemA W W.heap.size v t s
theorem MemN.mem {w : World} {B : Nat} {v : Value} {t : Int} {s : WSt} (h : MemN w B v t s) : MemA w w.heap.size v t s := h w (Nat.le_refl _) fun _ _ _ => rfl
theorem MemN.base {w : World} {B B' : Nat} {v : Value} {t : Int} {s : WSt} (h : MemN w B v t s) (hB : B' ≤ B) : MemN w B' v t s := fun W h1 h2 => h W h1 fun b hb hl => h2 b (by omega) hl
theorem MemN.moved {w w' : World} {B : Nat} {v : Value} {t : Int} {s : WSt} (h : MemN w B v t s) (hs : w.heap.size ≤ w'.heap.size) (hk : ∀ b, B ≤ b → b < w.heap.size → w'.heap[b]? = w.heap[b]?) : MemN w' B v t s :=
  fun W h1 h2 => h W (by omega) fun b hb hl => (h2 b hb (by omega)).trans (hk b hb hl)
theorem MOwn.memN {w : World} {B : Nat} {v : Value} {t : Int} {s : WSt} (h : MOwn w B v t s) (hl : s.ks.length ≤ 1000000) : MemN w B v t s := fun _ hs hk => (h.keepH hk hs).mem hl
theorem MemN.zero (w : World) (B : Nat) : MemN w B zeroMem 0 ⟨[], [], []⟩ := fun W _ _ => zero_mem W
theorem WS.memN {w : World} {B wb : Nat} {A : Option Addr} {lc : Caps} {l : List MMon} {tick : Int} {cb : Nat} {ns : List Int} {kb : Nat} {cs : List Int} {V : Value} {K : List (MCode × Value)} (h : WS w B wb A lc l tick cb ns kb cs V K) (hns : ns.length = l.length) (hcs : cs.length = l.length) (hl : l.length ≤ 20) (hK : K.length ≤ 1000000) (hq : l.length ≤ lc.2.1 ∧ l.length ≤ lc.2.2) :
    MemN w B (.agg #[.int .i64 tick, .slice (some ⟨cb, 0, none⟩) l.length lc.2.1, .slice (some ⟨kb, 0, none⟩) l.length lc.2.2, V]) tick ⟨ns, cs, K.map Prod.fst⟩ := fun W hs hk => by
  have cnt : ∀ {g : Nat} {f : Nat → Value}, B ≤ g → OwnF w g 3 l.length f → OwnF W g 3 l.length f := fun {g f} hg hO => by
    obtain ⟨c, h1, h2⟩ := id hO
    exact ⟨c, (hk g hg hO.lt).trans h1, h2⟩
  have hrow : RowC W B V K := h.row.keep fun g hg => hk g (own_block_lt h.row g hg).1 (own_block_lt h.row g hg).2
  have hfr : ∀ p ∈ K, FrameU W (fun b => b ≠ wb ∧ b ≠ cb ∧ b ≠ kb ∧ some b ≠ V.ownBlock ∧ B ≤ b) p := fun p hp => (h.frames p hp).keep hs (fun b hb hu => hk b hu.2.2.2.2 hb) (fun _ _ hu => hu)
  have h1 := cnt h.bc h.cnt
  have h2 := cnt h.bk h.clm
  obtain ⟨Av, cap, rfl, hcap⟩ := hrow.lenV
  rw [← hns] at h1
  rw [← hcs] at h2
  refine ⟨_, lc.2.1, _, lc.2.2, Av, cap, by show _ = Value.agg #[.int .i64 tick, .slice (some ⟨cb, 0, none⟩) ns.length lc.2.1, .slice (some ⟨kb, 0, none⟩) cs.length lc.2.2, .slice Av (K.map Prod.fst).length cap]; rw [List.length_map, hns, hcs], h1.ints (by unfold maxLen; omega), h2.ints (by unfold maxLen; omega), RowC.codes hrow hfr hK, ?_, ?_, by simpa using hcap⟩
  · show ns.length ≤ _; omega
  · show cs.length ≤ _; omega
/-- a tick of a watcher whose memory is the call's own -/
theorem tick_box {w w' : World} {B wb : Nat} {t : Int} {s : WSt} {A1 A2 A3 A R : Option Addr} {c1 c2 c3 lc rc : Nat} {l : List MMon} {row : List Int} (h : MOwn w B (.agg #[.int .i64 t, .slice A1 s.ns.length c1, .slice A2 s.cs.length c2, .slice A3 s.ks.length c3]) t s)
    (hs : SOk l s) (hml : monsB l = true) (hlaw : lawB l row = true) (ht : 0 ≤ t ∧ t ≤ 1000000) (hwb : w.heap.size ≤ wb) (hB : B ≤ w.heap.size) (hb : Below w.heap.size w w') (hm : MonsA w' B A l) (hr : IntsA w' B R row)
    (hh : w'.heap[wb]? = some (.cells #[.slice A l.length lc, .int .i64 t, .slice A1 s.ns.length c1, .slice A2 s.cs.length c2, .slice A3 s.ks.length c3] 88 (0, 0))) :
    Calls Tryd.prog 53 #[.pointer (some ⟨wb, 0, none⟩), .slice R row.length rc] w' fun e w2 => e = .returned (.tuple #[]) ∧ Below B w' w2 ∧ ∃ V0 D1 d1 D2 d2 D3 d3,
      w2.heap[wb]? = some (.cells #[V0, .int .i64 (t + 1), .slice D1 (tickOf l t row s).ns.length d1, .slice D2 (tickOf l t row s).cs.length d2, .slice D3 (tickOf l t row s).ks.length d3] 88 (0, 0)) ∧
      MemN w2 B (.agg #[.int .i64 (t + 1), .slice D1 (tickOf l t row s).ns.length d1, .slice D2 (tickOf l t row s).cs.length d2, .slice D3 (tickOf l t row s).ks.length d3]) (t + 1) (tickOf l t row s) := by
  have hl20 := monsB_len hml
  have hsw := hb.size
  have hwl := lt_of_block hh
  have hM0 := h.mem (by have := hs.few hl20; omega)
  rcases Nat.eq_zero_or_pos l.length with h0 | h0
  · obtain rfl : l = [] := List.eq_nil_of_length_eq_zero h0
    refine (tick_nil wb A lc t _ _ _ R row.length rc w' ht hh).mono ?_
    rintro e w2 ⟨rfl, rfl⟩
    have hbb : Below w.heap.size w (w'.setCell ⟨wb, 1, none⟩ (.int .i64 (t + 1))) := hb.setCell (p := ⟨wb, 1, none⟩) hwb _
    refine ⟨rfl, (Below.refl B w').setCell (p := ⟨wb, 1, none⟩) (Nat.le_trans hB hwb) _, .slice A 0 lc, A1, c1, A2, c2, A3, c3, ?_, fun W hsW hW => ?_⟩
    · rw [heap_setCell_same w' wb 1 _ 88 _ hh]; rfl
    · have hMW : MOwn W B (.agg #[.int .i64 t, .slice A1 s.ns.length c1, .slice A2 s.cs.length c2, .slice A3 s.ks.length c3]) t s := MOwn.keepH h (fun b hb1 hb2 => (hW b hb1 (Nat.lt_of_lt_of_le hb2 hbb.size)).trans (hbb.block b hb2)) (Nat.le_trans hbb.size hsW)
      obtain ⟨B1, d1, B2, d2, B3, d3, e, q1, q2, q3, q4⟩ := hMW.mem (by have := hs.few hl20; omega)
      injection e with e
      simp only [Array.mk.injEq, List.cons.injEq, and_true, true_and, Value.slice.injEq] at e
      obtain ⟨⟨rfl, rfl⟩, ⟨rfl, rfl⟩, ⟨rfl, rfl⟩⟩ := e
      exact ⟨_, _, _, _, _, _, rfl, q1, q2, q3, q4⟩
  · obtain ⟨B1, d1, B2, d2, B3, d3, e, _, _, _, q4, q5, _⟩ := hM0
    injection e with e
    simp only [Array.mk.injEq, List.cons.injEq, and_true, true_and, Value.slice.injEq] at e
    obtain ⟨⟨rfl, rfl⟩, ⟨rfl, rfl⟩, ⟨rfl, rfl⟩⟩ := e
    obtain ⟨gC, gK, hT⟩ := own_WT h hs.ns hs.cs h0 hwb hB hb hm hh
    refine (tickC_of hs hml hlaw ht w' B wb A (lc, c1, c2) gC gK R rc hT hr).mono ?_
    rintro e w2 ⟨rfl, hT2, hb2⟩
    have hs2 := hs.ticked hml t row
    obtain ⟨_, _, V, K, hK, hS⟩ := hT2
    obtain ⟨Av, cv, rfl, _⟩ := hS.row.lenV
    have hKl : K.length = (tickOf l t row s).ks.length := by rw [← hK, List.length_map]
    have hw := hS.hw
    rw [hKl] at hw
    have e1 : (tickOf l t row s).ns.length = l.length := hs2.ns
    have e2 : (tickOf l t row s).cs.length = l.length := hs2.cs
    refine ⟨rfl, hb2, .slice A l.length lc, some ⟨gC, 0, none⟩, c1, some ⟨gK, 0, none⟩, c2, Av, cv, ?_, ?_⟩
    · rw [e1, e2]; exact hw
    · have hM := hS.memN hs2.ns hs2.cs hl20 (by have := hs2.few hl20; omega) ⟨by have := hs.ns; show l.length ≤ c1; omega, by have := hs.cs; show l.length ≤ c2; omega⟩
      rw [hK, hKl] at hM
      rw [e1, e2]
      exact hM
end Go.Proofs.YtonpemikodajdaaDoor
