/- Walks: the watcher's counters, calm, tick, Watch. -/
import Derived.Test.YtonpemikodajdaaDoorWb
import Derived.Test.YtonpemikodajdaaDoorBa
import Derived.Deep.QuietTactic
import Derived.Test.YtonpemikodajdaaDoorWa
import Derived.Deep.RegionHeld3
import Derived.Deep.Cut
/- The watcher's stores: a counter, a calm, the tick. -/
namespace Go.Proofs.YtonpemikodajdaaDoor
open Go.RowKit

theorem RowC.keep {w w' : World} {B : Nat} {V : Value} {K : List (MCode × Value)} (h : RowC w B V K) (hh : ∀ g, V.ownBlock = some g → w'.heap[g]? = w.heap[g]?) : RowC w' B V K := by
  obtain ⟨h1, h2⟩ := h
  refine ⟨h1, ?_⟩
  rcases h2 with h2 | ⟨g, cap, cur, hv, hg, hb, r⟩
  · exact .inl h2
  · exact .inr ⟨g, cap, cur, hv, hg, (hh g (by rw [hv]; rfl)).trans hb, r⟩
theorem getD_set (l : List Int) (i j : Nat) (n : Int) (hi : i < l.length) : (l.set i n).getD j 0 = if j = i then n else l.getD j 0 := by
  rw [List.getD_eq_getElem?_getD, List.getElem?_set]
  by_cases h : i = j
  · subst h
    rw [if_pos rfl, if_pos hi, if_pos rfl]; rfl
  · rw [if_neg h, if_neg (fun e => h e.symm), List.getD_eq_getElem?_getD]
section
variable {w : World} {B wb : Nat} {A : Option Addr} {lc : Caps} {l : List MMon} {tick : Int} {cb : Nat} {ns : List Int} {kb : Nat} {cs : List Int} {V : Value} {K : List (MCode × Value)}
theorem WS.frameset (h : WS w B wb A lc l tick cb ns kb cs V K) {b : Nat} (hb : b = wb ∨ b = cb ∨ b = kb) (i : Nat) (u : Value) : ∀ p ∈ K, FrameU (w.setCell ⟨b, i, none⟩ u) (fun b => b ≠ wb ∧ b ≠ cb ∧ b ≠ kb ∧ some b ≠ V.ownBlock ∧ B ≤ b) p := fun p hp =>
  (h.frames p hp).keep (by simp) (fun b' _ hu => Below.heap_setCell w ⟨b, i, none⟩ _ b' (by rcases hb with rfl | rfl | rfl; exact hu.1; exact hu.2.1; exact hu.2.2.1)) (fun _ _ hu => hu)
theorem WS.rowset (h : WS w B wb A lc l tick cb ns kb cs V K) {b : Nat} (hb : b = wb ∨ b = cb ∨ b = kb) (i : Nat) (u : Value) : RowC (w.setCell ⟨b, i, none⟩ u) B V K :=
  h.row.keep fun g hg => Below.heap_setCell w ⟨b, i, none⟩ _ g (by
    have := h.vb g hg
    rcases hb with rfl | rfl | rfl
    · exact this.1
    · exact this.2.1
    · exact this.2.2)
theorem WS.setCnt (h : WS w B wb A lc l tick cb ns kb cs V K) (hns : ns.length = l.length) {i : Nat} (hi : i < l.length) (n : Int) : WS (w.setCell ⟨cb, i, none⟩ (.int .i64 n)) B wb A lc l tick cb (ns.set i n) kb cs V K := by
  refine ⟨(Below.heap_setCell w ⟨cb, i, none⟩ _ wb h.n1).trans h.hw, h.mons.below ((Below.refl B w).setCell h.bc _) (Nat.le_refl _), h.bw, h.bc, h.bk, h.n1, h.n2, h.n3, (h.cnt.set i _).congr fun j _ => ?_, h.clm.far (fun e => h.n3 e.symm) _, h.rowset (.inr (.inl rfl)) _ _, h.vb, h.frameset (.inr (.inl rfl)) _ _⟩
  rw [getD_set ns i j n (by omega)]
  split <;> rfl
theorem WS.setClm (h : WS w B wb A lc l tick cb ns kb cs V K) (hcs : cs.length = l.length) {i : Nat} (hi : i < l.length) (n : Int) : WS (w.setCell ⟨kb, i, none⟩ (.int .i64 n)) B wb A lc l tick cb ns kb (cs.set i n) V K := by
  refine ⟨(Below.heap_setCell w ⟨kb, i, none⟩ _ wb h.n2).trans h.hw, h.mons.below ((Below.refl B w).setCell h.bk _) (Nat.le_refl _), h.bw, h.bc, h.bk, h.n1, h.n2, h.n3, h.cnt.far h.n3 _, (h.clm.set i _).congr fun j _ => ?_, h.rowset (.inr (.inr rfl)) _ _, h.vb, h.frameset (.inr (.inr rfl)) _ _⟩
  rw [getD_set cs i j n (by omega)]
  split <;> rfl
theorem WS.setTick (h : WS w B wb A lc l tick cb ns kb cs V K) (t : Int) : WS (w.setCell ⟨wb, 1, none⟩ (.int .i64 t)) B wb A lc l t cb ns kb cs V K := by
  refine ⟨?_, h.mons.below ((Below.refl B w).setCell h.bw _) (Nat.le_refl _), h.bw, h.bc, h.bk, h.n1, h.n2, h.n3, h.cnt.far (fun e => h.n1 e.symm) _, h.clm.far (fun e => h.n2 e.symm) _, h.rowset (.inl rfl) _ _, h.vb, h.frameset (.inl rfl) _ _⟩
  rw [heap_setCell_same w wb 1 _ 88 _ h.hw]; rfl
end
end Go.Proofs.YtonpemikodajdaaDoor

/- Walk: calm, where no code is, or an active one. -/
namespace Go.Proofs.YtonpemikodajdaaDoor
open Go.RowKit

set_option maxRecDepth 100000 in
set_option maxHeartbeats 2000000 in
theorem calm_zero {w : World} {B wb : Nat} {A : Option Addr} {lc : Caps} {l : List MMon} {tick : Int} {cb : Nat} {ns : List Int} {kb : Nat} {cs : List Int} {V : Value} {K : List (MCode × Value)}
    (hS : WS w B wb A lc l tick cb ns kb cs V K) (hl : l.length ≤ 20) (hcs : cs.length = l.length) (hK : K.length ≤ 1000000) (hasc : AscC (K.map Prod.fst)) (i : Nat) (hi : i < l.length)
    (ix : Nat) (has : Bool) (hf : FindP (K.map Prod.fst) i ix has) (ha : has = false ∨ ((K.map Prod.fst).getD ix dCode).active = true) :
    Calls Tryd.prog 91 #[.pointer (some ⟨wb, 0, none⟩), .int .i64 i] w fun e w' => e = .returned (.tuple #[]) ∧ WS w' B wb A lc l tick cb ns kb (cs.set i 0) V K ∧ Below B w w' := by
  obtain ⟨Av, cap, rfl, hcap⟩ := hS.row.lenV
  have hC := find_at Av cap (K.map Prod.fst) i w (RowC.codes hS.row hS.frames hK) hasc (by omega) hf
  rw [List.length_map] at hC
  have HC := Lib.hid hC
  have hb0 : ∀ w', Below w.heap.size w w' → WS w' B wb A lc l tick cb ns kb cs (.slice Av K.length cap) K := fun w' hb => hS.below hb (Nat.le_refl _)
  have HB := Lib.hid hb0
  have hBw := Nat.le_of_lt (Nat.lt_of_le_of_lt hS.bw hS.lt)
  have hbk := hS.bk
  have g4 := hS.g 4
  simp at g4
  have HF := Lib.hid hf
  have HK := Lib.hid hK
  have HA := Lib.hid ha
  have HCS := Lib.hid hcs
  clear hC hb0 hf hK ha hcs hasc hS
  rcases has with _ | _
  · go_enter Tryd.func91, Tryd.ntmps91
    go_wp2_with (go_at_call 106; refine HC.out.mono ?_; rintro e w1 ⟨rfl, hb1⟩; have HS1 := HB.out _ hb1; have g3 := HS1.g 3; simp at g3; have k0 := HS1.clm.cell hi; have k1 := HS1.clm.frozen i)
    all_goals ((try simp only [Exit.then, Exit.inBlock, ↓reduceIte]); refine bodyPost_ret (results_none rfl _ _ _) rfl ⟨rfl, HS1.setClm HCS.out hi 0, (hb1.mono hBw).setCell hbk _⟩)
  · have hix : ix < K.length := by have := (HF.out.2.2.2.1 rfl).1; simpa using this
    have hact : ((K.map Prod.fst).getD ix dCode).active = true := by
      rcases HA.out with h | h
      · cases h
      · exact h
    have HAC := Lib.hid hact
    clear hact
    go_enter Tryd.func91, Tryd.ntmps91
    go_wp2_with (go_at_call 106; refine HC.out.mono ?_; rintro e w1 ⟨rfl, hb1⟩; have HS1 := HB.out _ hb1; have g3 := HS1.g 3; simp at g3; have g41 := HS1.g 4; simp at g41; have k0 := HS1.clm.cell hi; have k1 := HS1.clm.frozen i; obtain ⟨f, b, off, Ap, cp, hg, rfl, hlt, _, _, _, _, _, c5, _, _⟩ := (RowC.codes HS1.row HS1.frames HK.out).at_ (show ix < (K.map Prod.fst).length by simpa using hix); rw [show f.active = true from hg ▸ HAC.out] at c5)
    all_goals ((try simp only [Exit.then, Exit.inBlock, ↓reduceIte]); refine bodyPost_ret (results_none rfl _ _ _) rfl ⟨rfl, HS1.setClm HCS.out hi 0, (hb1.mono hBw).setCell hbk _⟩)
end Go.Proofs.YtonpemikodajdaaDoor

/- Walk: tick, from what code and calm do for each monitor. -/
namespace Go.Proofs.YtonpemikodajdaaDoor
open Go.RowKit

/-- a watcher's counters and codes -/
structure WSt where
  ns : List Int
  cs : List Int
  ks : List MCode
def WT (w : World) (B wb : Nat) (A : Option Addr) (lc : Caps) (l : List MMon) (tick : Int) (cb kb : Nat) (s : WSt) : Prop :=
  s.ns.length = l.length ∧ s.cs.length = l.length ∧ ∃ V K, K.map Prod.fst = s.ks ∧ WS w B wb A lc l tick cb s.ns kb s.cs V K
theorem WT.below {w w' : World} {B wb : Nat} {A : Option Addr} {lc : Caps} {l : List MMon} {tick : Int} {cb kb : Nat} {s : WSt} (h : WT w B wb A lc l tick cb kb s) {B' : Nat} (hb : Below B' w w') (hB : w.heap.size ≤ B') : WT w' B wb A lc l tick cb kb s := by
  obtain ⟨h1, h2, V, K, h3, h4⟩ := h
  exact ⟨h1, h2, V, K, h3, h4.below hb hB⟩
def CodeC (B wb : Nat) (A : Option Addr) (lc : Caps) (l : List MMon) (tick : Int) (cb kb : Nat) (R : Option Addr) (rc : Nat) (row : List Int) (i : Nat) (s s' : WSt) : Prop :=
  ∀ w, WT w B wb A lc l tick cb kb s → IntsA w B R row → Calls Tryd.prog 90 #[.pointer (some ⟨wb, 0, none⟩), .int .i64 i, .slice R row.length rc] w fun e w' => e = .returned (.tuple #[]) ∧ WT w' B wb A lc l tick cb kb s' ∧ Below B w w'
def CalmC (B wb : Nat) (A : Option Addr) (lc : Caps) (l : List MMon) (tick : Int) (cb kb : Nat) (i : Nat) (s s' : WSt) : Prop :=
  ∀ w, WT w B wb A lc l tick cb kb s → Calls Tryd.prog 91 #[.pointer (some ⟨wb, 0, none⟩), .int .i64 i] w fun e w' => e = .returned (.tuple #[]) ∧ WT w' B wb A lc l tick cb kb s' ∧ Below B w w'
/-- a counter behind a look at a signal -/
def cntS (m : MMon) (v n : Int) : Int := if inB v m.low m.high = true then max (n - m.down) 0 else min (n + m.up) m.limit
theorem mon_ok {l : List MMon} (h : monsB l = true) {i : Nat} {m : MMon} (hm : l[i]? = some m) : monB m = true ∧ l.length ≤ 20 := by
  unfold monsB at h
  rw [Bool.and_eq_true, decide_eq_true_eq, List.all_eq_true] at h
  exact ⟨h.2 m (List.mem_of_getElem? hm), h.1⟩
theorem monB_bounds {m : MMon} (h : monB m = true) : (0 ≤ m.sig ∧ m.sig ≤ 19) ∧ (1 ≤ m.up ∧ m.up ≤ 100) ∧ (1 ≤ m.down ∧ m.down ≤ 100) ∧ (1 ≤ m.limit ∧ m.limit ≤ 1000) ∧ (1 ≤ m.heal ∧ m.heal ≤ 1000) := by
  unfold monB inB at h
  simp only [Bool.and_eq_true, decide_eq_true_eq] at h
  omega
theorem law_sig {l : List MMon} {row : List Int} (h : lawB l row = true) {i : Nat} {m : MMon} (hm : l[i]? = some m) : m.sig < row.length := by
  unfold lawB at h
  rw [Bool.and_eq_true, Bool.and_eq_true] at h
  have := List.all_eq_true.1 h.2.2 m (List.mem_of_getElem? hm)
  unfold sigB at this
  simpa using this
theorem WT.counted {w : World} {B wb : Nat} {A : Option Addr} {lc : Caps} {l : List MMon} {tick : Int} {cb kb : Nat} {s : WSt} (h : WT w B wb A lc l tick cb kb s) {i : Nat} (hi : i < l.length) (n : Int) : WT (w.setCell ⟨cb, i, none⟩ (.int .i64 n)) B wb A lc l tick cb kb { s with ns := s.ns.set i n } := by
  obtain ⟨h1, h2, V, K, h3, h4⟩ := h
  exact ⟨by simpa using h1, h2, V, K, h3, h4.setCnt h1 hi n⟩
section
variable {w W : World} {B wb : Nat} {A : Option Addr} {lc : Caps} {l : List MMon} {tick : Int} {cb kb : Nat} {s : WSt}
theorem WT.bc (h : WT W B wb A lc l tick cb kb s) : B ≤ cb := by obtain ⟨_, _, V, K, _, h⟩ := h; exact h.bc
theorem cnt_put (nq : Nat) (h : WT W B wb A lc l tick cb kb s) {i : Nat} (hi : i < l.length) {m : MMon} {v n x u : Int} (hc : cntS m v n = x) (hv : u = v) (hn : s.ns.getD i 0 = n) :
    WT ((W.drewN nq).drew.setCell ⟨cb, i, none⟩ (.int .i64 x)) B wb A lc l tick cb kb { s with ns := s.ns.set i (cntS m u (s.ns.getD i 0)) } := by
  subst hv
  rw [hn, hc]
  have hb0 : Below W.heap.size W (W.drewN nq).drew := ⟨rfl, rfl, rfl, Nat.le_refl _, fun _ _ => rfl⟩
  have h2 : WT (W.drewN nq).drew B wb A lc l tick cb kb s := h.below hb0 (Nat.le_refl _)
  exact h2.counted hi x
theorem bel_put (nq : Nat) (hb : Below B w W) (h : WT W B wb A lc l tick cb kb s) (i : Nat) (x : Int) : Below B w ((W.drewN nq).drew.setCell ⟨cb, i, none⟩ (.int .i64 x)) := by
  have h2 : Below B w (W.drewN nq).drew := ⟨hb.os, hb.tape, hb.output, hb.size, hb.block⟩
  exact h2.setCell h.bc _
theorem row_put (nq : Nat) {R : Option Addr} {row : List Int} (hr : IntsA W B R row) (h : WT W B wb A lc l tick cb kb s) (i : Nat) (x : Int) : IntsA ((W.drewN nq).drew.setCell ⟨cb, i, none⟩ (.int .i64 x)) B R row :=
  hr.keep (bel_put nq (Below.refl B W) h i x)
end
set_option maxRecDepth 100000 in
set_option maxHeartbeats 4000000 in
theorem tick_any {w : World} {B wb : Nat} {A : Option Addr} {lc : Caps} {l : List MMon} {tick : Int} {cb kb : Nat} (R : Option Addr) (rc : Nat) (row : List Int) (st md : Nat → WSt)
    (hT : WT w B wb A lc l tick cb kb (st 0)) (hml : monsB l = true) (hrow : IntsA w B R row) (hlaw : lawB l row = true) (htk : 0 ≤ tick ∧ tick ≤ 1000000)
    (hn : ∀ i, i < l.length → 0 ≤ (st i).ns.getD i 0 ∧ (st i).ns.getD i 0 ≤ 1000)
    (hcode : ∀ i m, l[i]? = some m → CodeC B wb A lc l tick cb kb R rc row i { st i with ns := (st i).ns.set i (cntS m (row.getD m.sig.toNat 0) ((st i).ns.getD i 0)) } (md i))
    (hcalm : ∀ i, i < l.length → CalmC B wb A lc l tick cb kb i (md i) (st (i + 1))) :
    Calls Tryd.prog 53 #[.pointer (some ⟨wb, 0, none⟩), .slice R row.length rc] w fun e w' => e = .returned (.tuple #[]) ∧ WT w' B wb A lc l (tick + 1) cb kb (st l.length) ∧ Below B w w' := by
  have hBw : B ≤ w.heap.size := by obtain ⟨_, _, V, K, _, h⟩ := hT; have := h.bw; have := h.lt; omega
  have hlen : l.length ≤ 20 := by unfold monsB at hml; rw [Bool.and_eq_true, decide_eq_true_eq] at hml; exact hml.1
  have g0 : w.cell? ⟨wb, 0, none⟩ = some (.slice A l.length lc.1) := by obtain ⟨_, _, V, K, _, h⟩ := hT; have := h.g 0; simpa using this
  have HROW := Lib.hid hrow
  have HML := Lib.hid hml
  have HLAW := Lib.hid hlaw
  have HN := Lib.hid hn
  have HCO := Lib.hid hcode
  have HCA := Lib.hid hcalm
  have HT0 := Lib.hid hT
  clear hT hml hrow hlaw hn hcode hcalm
  go_enter Tryd.func53, Tryd.ntmps53
  go_wp2_with fail
  go_loopw [12] (fun vi wr => ∃ k : Nat, k ≤ l.length ∧ vi = .int .i64 k ∧ Hid (WT wr B wb A lc l tick cb kb (st k)) ∧ Below B w wr) (fun vi _ => l.length - (intOf vi).toNat)
  case atStart => exact ⟨0, Nat.zero_le _, rfl, HT0, Below.refl _ _⟩
  case round =>
    obtain ⟨k, hk, rfl, HT, hbw⟩ := hrel
    by_cases hlt : k < l.length
    · have hT0 := HT.out
      obtain ⟨V, K, hKK, hS⟩ := hT0.2.2
      obtain ⟨m, b, off, ht, rfl, hblt, t0, t1, t2, t3, t4, t5, t6⟩ := hS.mons.at_ hlt
      have HM := Lib.hid ht
      have hmb := monB_bounds (mon_ok HML.out ht).1
      have hsl : m.sig < row.length := law_sig HLAW.out ht
      obtain ⟨sg, hsg⟩ : ∃ n : Nat, m.sig = n := ⟨m.sig.toNat, by omega⟩
      have hsn : m.sig.toNat = sg := by omega
      have hCO := HCO.out k m ht
      rw [hsn] at hCO
      have HCOD := Lib.hid hCO
      have HCAL := Lib.hid (HCA.out k hlt)
      rw [hsg] at t0
      have hsr : sg < row.length := by omega
      obtain ⟨n, hnn⟩ : ∃ n, (st k).ns.getD k 0 = n := ⟨_, rfl⟩
      have hnb := HN.out k hlt
      rw [hnn] at hnb
      obtain ⟨v, hv⟩ : ∃ v, row.getD sg 0 = v := ⟨_, rfl⟩
      have hT1 : WT (wr.alloc (.cells #[.int .i64 (sg : Int), .int .i64 m.low, .int .i64 m.high, .int .i64 m.up, .int .i64 m.down, .int .i64 m.limit, .int .i64 m.heal] 44)) B wb _ lc l tick cb kb (st k) := hT0.below ((Below.refl wr.heap.size wr).alloc (Nat.le_refl _) _) (Nat.le_refl _)
      have hb1 : Below B w (wr.alloc (.cells #[.int .i64 (sg : Int), .int .i64 m.low, .int .i64 m.high, .int .i64 m.up, .int .i64 m.down, .int .i64 m.limit, .int .i64 m.heal] 44)) := hbw.alloc (by have := hbw.size; omega) _
      have n0 := newcell wr #[.int .i64 (sg : Int), .int .i64 m.low, .int .i64 m.high, .int .i64 m.up, .int .i64 m.down, .int .i64 m.limit, .int .i64 m.heal] 44 0
      have n1 := newcell wr #[.int .i64 (sg : Int), .int .i64 m.low, .int .i64 m.high, .int .i64 m.up, .int .i64 m.down, .int .i64 m.limit, .int .i64 m.heal] 44 1
      have n2 := newcell wr #[.int .i64 (sg : Int), .int .i64 m.low, .int .i64 m.high, .int .i64 m.up, .int .i64 m.down, .int .i64 m.limit, .int .i64 m.heal] 44 2
      have n3 := newcell wr #[.int .i64 (sg : Int), .int .i64 m.low, .int .i64 m.high, .int .i64 m.up, .int .i64 m.down, .int .i64 m.limit, .int .i64 m.heal] 44 3
      have n4 := newcell wr #[.int .i64 (sg : Int), .int .i64 m.low, .int .i64 m.high, .int .i64 m.up, .int .i64 m.down, .int .i64 m.limit, .int .i64 m.heal] 44 4
      have n5 := newcell wr #[.int .i64 (sg : Int), .int .i64 m.low, .int .i64 m.high, .int .i64 m.up, .int .i64 m.down, .int .i64 m.limit, .int .i64 m.heal] 44 5
      simp only [List.getElem?_toArray, List.getElem?_cons_succ, List.getElem?_cons_zero] at n0 n1 n2 n3 n4 n5
      obtain ⟨rb, ro, hR, hrb, hrc⟩ := (HROW.out.keep hb1).at_ hsr
      rw [hv] at hrc
      obtain ⟨_, _, V1, K1, hKK1, hS1⟩ := id hT1
      have g2 := hS1.g 2
      have c0 := hS1.cnt.cell hlt
      have f0 := hS1.cnt.frozen k
      simp at g2
      rw [hnn] at c0
      have HT1 := Lib.hid hT1
      have HB1 := Lib.hid hb1
      have HRO := Lib.hid (HROW.out.keep hb1)
      subst hR
      obtain ⟨x, hx⟩ : ∃ x, inB v m.low m.high = x := ⟨_, rfl⟩
      have hcn : cntS m v n = if x = true then max (n - m.down) 0 else min (n + m.up) m.limit := by unfold cntS; rw [hx]
      have HCN := Lib.hid hcn
      have HX := Lib.hid hx
      have HV := Lib.hid hv
      have HNN := Lib.hid hnn
      have e1 : IntKind.i64.wrap (n - m.down) = n - m.down := IntWalk.i64_in _ (by omega)
      have e2 : IntKind.i64.wrap (n + m.up) = n + m.up := IntWalk.i64_in _ (by omega)
      clear hS hS1 hKK hKK1 hT1 hb1 hx hcn hv hnn hsg hsn hsl hCO hT0 ht
      rcases x with _ | _
      · have hcv : cntS m v n = (if m.limit < n + m.up then m.limit else n + m.up) := by rw [HCN.out]; (try simp only [if_true]); (try simp only [if_false, Bool.false_eq_true]); split <;> omega
        obtain ⟨y, hy⟩ : ∃ y, (if m.limit < n + m.up then m.limit else n + m.up) = y := ⟨_, rfl⟩
        rw [hy] at hcv
        have HCV := Lib.hid hcv
        clear hcv
        go_wp2_with fail
        go_quiet ((go_at_call 66; exact quiet_w (within_b _ _ _ _ _ HX.out)))
        go_wp2_with fail
        refine wp_region_quiet_tail 11 (by kernel_rfl) (by kernel_rfl) ?_
        simp only [List.take_succ_cons, List.take_zero, List.drop_succ_cons, List.drop_zero]
        repeat (go_big_quiet_step (fail))
        refine wpQuiet_nil ?_
        have hT3 := cnt_put nq HT1.out hlt HCV.out HV.out HNN.out
        have hR3 := row_put nq HRO.out HT1.out k y
        have hb3 := bel_put nq HB1.out HT1.out k y
        clear n0 n1 n2 n3 n4 n5 e1 e2 t0 t1 t2 t3 t4 t5 t6 hrc hmb hy
        go_wp2_with (first | (go_at_call 90; refine (HCOD.out _ hT3 hR3).mono ?_; rintro e w5 ⟨rfl, hT5, hb5⟩) | (go_at_call 91; refine (HCAL.out _ hT5).mono ?_; rintro e w6 ⟨rfl, hT6, hb6⟩))
        go_roundw
        case rel => exact ⟨k + 1, by omega, by go_num, hT6, hb3.trans (hb5.trans hb6)⟩
        case measure => simp [intOf]; omega
      · have hcv : cntS m v n = (if n - m.down < 0 then 0 else n - m.down) := by rw [HCN.out]; (try simp only [if_true]); (try simp only [if_false, Bool.false_eq_true]); split <;> omega
        obtain ⟨y, hy⟩ : ∃ y, (if n - m.down < 0 then 0 else n - m.down) = y := ⟨_, rfl⟩
        rw [hy] at hcv
        have HCV := Lib.hid hcv
        clear hcv
        go_wp2_with fail
        go_quiet ((go_at_call 66; exact quiet_w (within_b _ _ _ _ _ HX.out)))
        go_wp2_with fail
        refine wp_region_quiet_tail 9 (by kernel_rfl) (by kernel_rfl) ?_
        simp only [List.take_succ_cons, List.take_zero, List.drop_succ_cons, List.drop_zero]
        repeat (go_big_quiet_step (fail))
        refine wpQuiet_nil ?_
        have hT3 := cnt_put nq HT1.out hlt HCV.out HV.out HNN.out
        have hR3 := row_put nq HRO.out HT1.out k y
        have hb3 := bel_put nq HB1.out HT1.out k y
        clear n0 n1 n2 n3 n4 n5 e1 e2 t0 t1 t2 t3 t4 t5 t6 hrc hmb hy
        go_wp2_with (first | (go_at_call 90; refine (HCOD.out _ hT3 hR3).mono ?_; rintro e w5 ⟨rfl, hT5, hb5⟩) | (go_at_call 91; refine (HCAL.out _ hT5).mono ?_; rintro e w6 ⟨rfl, hT6, hb6⟩))
        go_roundw
        case rel => exact ⟨k + 1, by omega, by go_num, hT6, hb3.trans (hb5.trans hb6)⟩
        case measure => simp [intOf]; omega
    · obtain rfl : k = l.length := by omega
      obtain ⟨V, K, hKK, hS⟩ := HT.out.2.2
      have g1 := hS.g 1
      simp at g1
      have hfz : wr.frozen? ⟨wb, 1, none⟩ = false := by simp [World.frozen?, hS.hw]
      have e1 : IntKind.i64.wrap (tick + 1) = tick + 1 := IntWalk.i64_in _ (by omega)
      have hS2 := HT.out
      have hS3 : WT (wr.setCell ⟨wb, 1, none⟩ (.int .i64 (tick + 1))) B wb A lc l (tick + 1) cb kb (st l.length) := ⟨hS2.1, hS2.2.1, V, K, hKK, hS.setTick (tick + 1)⟩
      have hb3 : Below B w (wr.setCell ⟨wb, 1, none⟩ (.int .i64 (tick + 1))) := hbw.setCell hS.bw _
      have HS3 := Lib.hid hS3
      clear hS hS2 hS3 hKK
      go_wp2_with fail
      go_end0
      exact ⟨rfl, HS3.out, hb3⟩
end Go.Proofs.YtonpemikodajdaaDoor

/- Walk: diagnose.Watch, from what tick does with each row. -/
namespace Go.Proofs.YtonpemikodajdaaDoor
open Go.RowKit

def TickC (l : List MMon) (t : Int) (row : List Int) (s s' : WSt) : Prop :=
  ∀ (w : World) (B wb : Nat) (A : Option Addr) (lc : Caps) (cb kb : Nat) (R : Option Addr) (rc : Nat), WT w B wb A lc l t cb kb s → IntsA w B R row →
    Calls Tryd.prog 53 #[.pointer (some ⟨wb, 0, none⟩), .slice R row.length rc] w fun e w' => e = .returned (.tuple #[]) ∧ WT w' B wb A lc l (t + 1) cb kb s' ∧ Below B w w'
def watchE (l : List MMon) (rs : List (List Int)) : Int := if monsB l = true then (if rs.length > 500 then 2 else if rs.all (lawB l) = true then 0 else 1) else 100
def zeroMem : Value := .agg #[.int .i64 0, .slice none 0 0, .slice none 0 0, .slice none 0 0]
def WatchPost (w : World) (l : List MMon) (rs : List (List Int)) (s : WSt) (e : Ending) (w' : World) : Prop :=
  Below w.heap.size w w' ∧ ((∃ r, watchE l rs = r ∧ r ≠ 0 ∧ e = .returned (.tuple #[zeroMem, .int .i64 r])) ∨
    (watchE l rs = 0 ∧ ∃ A lc wb cb kb V K, e = .returned (.tuple #[.agg #[.int .i64 rs.length, .slice (some ⟨cb, 0, none⟩) l.length l.length, .slice (some ⟨kb, 0, none⟩) l.length l.length, V], .int .i64 0]) ∧
      K.map Prod.fst = s.ks ∧ WS w' (w.heap.size + 2) wb A (lc, l.length, l.length) l rs.length cb s.ns kb s.cs V K))
theorem row_cell {w : World} {g : Nat} {cs : Array Value} {t : TypeId} (h : w.heap[g]? = some (.cells cs t (0, 0))) (k : Nat) : w.cell? ⟨g, k, none⟩ = cs[k]? := cell_of_row w g k _ t (0, 0) h
theorem row_frozen {w : World} {g : Nat} {cs : Array Value} {t : TypeId} (h : w.heap[g]? = some (.cells cs t (0, 0))) (k : Nat) : w.frozen? ⟨g, k, none⟩ = false := by simp [World.frozen?, h]
theorem put4 {w : World} {g : Nat} {a b c d a' b' c' d' : Value} (h : w.heap[g]? = some (.cells #[a, b, c, d] 27 (0, 0))) :
    ((((w.setCell ⟨g, 0, none⟩ a').setCell ⟨g, 1, none⟩ b').setCell ⟨g, 2, none⟩ c').setCell ⟨g, 3, none⟩ d').heap[g]? = some (.cells #[a', b', c', d'] 27 (0, 0)) := by
  rw [heap_setCell_same _ g 3 _ 27 _ (heap_setCell_same _ g 2 _ 27 _ (heap_setCell_same _ g 1 _ 27 _ (heap_setCell_same w g 0 _ 27 _ h)))]
  simp
theorem below_put4 {w w1 : World} {B g : Nat} (hb : Below B w w1) (hg : B ≤ g) (a b c d : Value) : Below B w ((((w1.setCell ⟨g, 0, none⟩ a).setCell ⟨g, 1, none⟩ b).setCell ⟨g, 2, none⟩ c).setCell ⟨g, 3, none⟩ d) :=
  (((hb.setCell (p := ⟨g, 0, none⟩) hg _).setCell (p := ⟨g, 1, none⟩) hg _).setCell (p := ⟨g, 2, none⟩) hg _).setCell (p := ⟨g, 3, none⟩) hg _
theorem heap_put4 {w1 : World} {g b : Nat} (hb : b ≠ g) (u0 u1 u2 u3 : Value) : ((((w1.setCell ⟨g, 0, none⟩ u0).setCell ⟨g, 1, none⟩ u1).setCell ⟨g, 2, none⟩ u2).setCell ⟨g, 3, none⟩ u3).heap[b]? = w1.heap[b]? :=
  (Below.heap_setCell _ ⟨g, 3, none⟩ _ b hb).trans ((Below.heap_setCell _ ⟨g, 2, none⟩ _ b hb).trans ((Below.heap_setCell _ ⟨g, 1, none⟩ _ b hb).trans (Below.heap_setCell _ ⟨g, 0, none⟩ _ b hb)))
theorem results_mem2 {fn : Func} {p u : Tmp} (h : fn.results = #[.cell p 27, .tmp u]) (tmps : Array Value) (w : World) (g : Nat) (a b c d v : Value)
    (hp : tmps.getD p undef = .pointer (some ⟨g, 0, none⟩)) (hg : w.heap[g]? = some (.cells #[a, b, c, d] 27 (0, 0))) (hu : tmps.getD u undef = v) :
    (results fn tmps).run Tryd.prog w = .ok (.tuple #[.agg #[a, b, c, d], v]) w := by
  obtain ⟨f, hd⟩ := mem_under
  rw [results_cell_tmp h, hp, hu]
  simp [asAddr, run_loadVar_row w g 27 27 _ (0, 0) (.struct f) hg hd rfl mem_info]
theorem WS.moved {w w' : World} {B wb : Nat} {A : Option Addr} {lc : Caps} {l : List MMon} {tick : Int} {cb : Nat} {ns : List Int} {kb : Nat} {cs : List Int} {V : Value} {K : List (MCode × Value)}
    (h : WS w B wb A lc l tick cb ns kb cs V K) (hm : MonsA w' B A l) (hs : w.heap.size ≤ w'.heap.size) (hk : ∀ b, B ≤ b → w'.heap[b]? = w.heap[b]?) : WS w' B wb A lc l tick cb ns kb cs V K := by
  have cnt : ∀ {g : Nat} {f : Nat → Value}, B ≤ g → OwnF w g 3 l.length f → OwnF w' g 3 l.length f := fun {g f} hg ⟨c, h1, h2⟩ => ⟨c, (hk g hg).trans h1, h2⟩
  exact ⟨(hk wb h.bw).trans h.hw, hm, h.bw, h.bc, h.bk, h.n1, h.n2, h.n3, cnt h.bc h.cnt, cnt h.bk h.clm, h.row.keep fun g hg => hk g (own_block_lt h.row g hg).1, h.vb, fun p hp => (h.frames p hp).keep hs (fun b _ hu => hk b hu.2.2.2.2) (fun _ _ hu => hu)⟩
theorem init_WT {w5 : World} {B ga gb : Nat} {A : Option Addr} {lc : Nat} {l : List MMon} (hm : MonsA w5 B A l) (ha : OwnF w5 ga 3 l.length (fun _ => .int .i64 0)) (hb : OwnF w5 gb 3 l.length (fun _ => .int .i64 0)) (h1 : B ≤ ga) (h2 : B ≤ gb) (hne : ga ≠ gb) :
    WT (w5.alloc (.cells #[.slice A l.length lc, .int .i64 0, .slice (some ⟨ga, 0, none⟩) l.length l.length, .slice (some ⟨gb, 0, none⟩) l.length l.length, .slice none 0 0] 88)) B w5.heap.size A (lc, l.length, l.length) l 0 ga gb ⟨List.replicate l.length 0, List.replicate l.length 0, []⟩ := by
  have hz : ∀ j, Value.int .i64 0 = Value.int .i64 ((List.replicate l.length (0 : Int)).getD j 0) := fun j => by
    congr 1
    rw [List.getD_eq_getElem?_getD, List.getElem?_replicate]
    split <;> rfl
  have la := ha.lt
  have lb := hb.lt
  have hBw : B ≤ w5.heap.size := by omega
  refine ⟨by simp, by simp, .slice none 0 0, [], rfl, heap_alloc_new _ _, hm.below ((Below.refl _ _).alloc hBw _) (Nat.le_refl _), hBw, h1, h2, by omega, by omega, hne, (ha.alloc _).congr fun j _ => hz j, (hb.alloc _).congr fun j _ => hz j, World.ownsRow_nil _ B 46 6, fun g hg => (by cases hg), fun p hp => by cases hp⟩
set_option maxRecDepth 100000 in
set_option maxHeartbeats 4000000 in
theorem watch_any (A : Option Addr) (lc : Nat) (l : List MMon) (A2 : Option Addr) (rc : Nat) (rs : List (List Int)) (w : World) (h : MonsA w w.heap.size A l) (hr : RowsA w w.heap.size A2 rs) (S : Nat → WSt)
    (hS0 : S 0 = ⟨List.replicate l.length 0, List.replicate l.length 0, []⟩) (hst : watchE l rs = 0 → ∀ (k : Nat) (row : List Int), rs[k]? = some row → TickC l k row (S k) (S (k + 1))) :
    Calls Tryd.prog 15 #[.slice A l.length lc, .slice A2 rs.length rc] w (WatchPost w l rs (S rs.length)) := by
  have hlenr := hr.1
  have hlenl := h.1
  unfold maxLen at hlenr hlenl
  have hb2 : Below w.heap.size w ((w.alloc (.cells #[.slice A l.length lc] 22)).alloc (.cells #[.int .i64 0, .slice none 0 0, .slice none 0 0, .slice none 0 0] 27)) := ((Below.refl _ _).alloc (Nat.le_refl _) _).alloc (by simp) _
  have hsz : ((w.alloc (.cells #[.slice A l.length lc] 22)).alloc (.cells #[.int .i64 0, .slice none 0 0, .slice none 0 0, .slice none 0 0] 27)).heap.size = w.heap.size + 2 := by simp
  have n0 : ((w.alloc (.cells #[.slice A l.length lc] 22)).alloc (.cells #[.int .i64 0, .slice none 0 0, .slice none 0 0, .slice none 0 0] 27)).cell? ⟨w.heap.size, 0, none⟩ = some (.slice A l.length lc) := (acell _ _ _ _ (by simp)).trans (newcell w _ _ _)
  have hn1 : ((w.alloc (.cells #[.slice A l.length lc] 22)).alloc (.cells #[.int .i64 0, .slice none 0 0, .slice none 0 0, .slice none 0 0] 27)).heap[w.heap.size + 1]? = some (.cells #[.int .i64 0, .slice none 0 0, .slice none 0 0, .slice none 0 0] 27 (0, 0)) := by
    have := heap_alloc_new (w.alloc (.cells #[.slice A l.length lc] 22)) (.cells #[.int .i64 0, .slice none 0 0, .slice none 0 0, .slice none 0 0] 27)
    rwa [show (w.alloc (.cells #[.slice A l.length lc] 22)).heap.size = w.heap.size + 1 by simp] at this
  by_cases hm : monsB l = true
  · have HC := Lib.hid (mcheck_any A lc l _ ((h.keep hb2).more hb2.size) (show checkM l = 0 by unfold checkM; rw [hm]; rfl))
    have HM := Lib.hid hm
    have HH := Lib.hid h
    have HR := Lib.hid hr
    have HST := Lib.hid hst
    have HS0 := Lib.hid hS0
    clear hm h hr hst hS0
    by_cases hn : rs.length > 500
    · have HN := Lib.hid hn
      go_enter Tryd.func15, Tryd.ntmps15
      go_wp2_with (go_at_call 32; refine HC.out.mono ?_; rintro e w1 ⟨rfl, hb1⟩; have hh1 := (hb1.block (w.heap.size + 1) (by omega)).trans hn1; have z0 := row_cell hh1 0; have z1 := row_cell hh1 1; have z2 := row_cell hh1 2; have z3 := row_cell hh1 3; simp only [List.getElem?_toArray, List.getElem?_cons_succ, List.getElem?_cons_zero] at z0 z1 z2 z3; have y0 := row_frozen hh1 0; have y1 := row_frozen hh1 1; have y2 := row_frozen hh1 2; have y3 := row_frozen hh1 3)
      (try simp only [Exit.then, Exit.inBlock])
      exact bodyPost_ret (results_mem2 rfl _ _ (w.heap.size + 1) _ _ _ _ _ rfl (put4 hh1) rfl) rfl ⟨below_put4 (hb2.trans (hb1.mono (by simp; omega))) (Nat.le_succ _) _ _ _ _, .inl ⟨2, by unfold watchE; rw [if_pos HM.out, if_pos HN.out], by decide, rfl⟩⟩
    · have hq : ∀ (b : Bool), rs.all (lawB l) = b → ∀ w1, Below ((w.alloc (.cells #[.slice A l.length lc] 22)).alloc (.cells #[.int .i64 0, .slice none 0 0, .slice none 0 0, .slice none 0 0] 27)).heap.size ((w.alloc (.cells #[.slice A l.length lc] 22)).alloc (.cells #[.int .i64 0, .slice none 0 0, .slice none 0 0, .slice none 0 0] 27)) w1 →
          Calls Tryd.prog 49 #[.slice A2 rs.length rc, .func (.func 50) #[] #[.pointer (some ⟨w.heap.size, 0, none⟩)]] w1 fun e w' => e = .returned (.bool !b) ∧ Below w1.heap.size w1 w' := fun b hb w1 hb1 =>
        con49 A2 rc rs w.heap.size A lc l w1 ((((HR.out.keep hb2).more hb2.size).keep hb1).more hb1.size) ((((HH.out.keep hb2).more hb2.size).keep hb1).more hb1.size) ((bcell hb1 w.heap.size 0 (by simp; omega)).trans n0) (by have := hb1.size; simp at this; omega) hb
      have HQ := Lib.hid hq
      have HN := Lib.hid hn
      have hn' : rs.length ≤ 500 := by omega
      clear hq hn
      rcases hlw : rs.all (lawB l)
      · have HL := Lib.hid hlw
        clear hlw
        go_enter Tryd.func15, Tryd.ntmps15
        go_wp2_with (first | (go_at_call 32; refine HC.out.mono ?_; rintro e w1 ⟨rfl, hb1⟩; have HB1 := Lib.hid hb1; clear hb1) | (go_at_call 49; refine (HQ.out _ HL.out _ HB1.out).mono ?_; rintro e w2 ⟨rfl, hbq⟩; have hh1 := (hbq.block (w.heap.size + 1) (by have := HB1.out.size; simp at this; omega)).trans ((HB1.out.block (w.heap.size + 1) (by simp)).trans hn1); have z0 := row_cell hh1 0; have z1 := row_cell hh1 1; have z2 := row_cell hh1 2; have z3 := row_cell hh1 3; simp only [List.getElem?_toArray, List.getElem?_cons_succ, List.getElem?_cons_zero] at z0 z1 z2 z3; have y0 := row_frozen hh1 0; have y1 := row_frozen hh1 1; have y2 := row_frozen hh1 2; have y3 := row_frozen hh1 3))
        (try simp only [Exit.then, Exit.inBlock])
        have hB2 : Below w.heap.size w w2 := (hb2.trans (HB1.out.mono (by simp; omega))).trans (hbq.mono (by have := HB1.out.size; simp at this; omega))
        exact bodyPost_ret (results_mem2 rfl _ _ (w.heap.size + 1) _ _ _ _ _ rfl (put4 hh1) rfl) rfl ⟨below_put4 hB2 (Nat.le_succ _) _ _ _ _, .inl ⟨1, by unfold watchE; rw [if_pos HM.out, if_neg HN.out, HL.out]; rfl, by decide, rfl⟩⟩
      · have HL := Lib.hid hlw
        clear hlw
        have hw0 : watchE l rs = 0 := by unfold watchE; rw [if_pos HM.out, if_neg HN.out, HL.out]; rfl
        have HW0 := Lib.hid hw0
        clear hw0
        go_enter Tryd.func15, Tryd.ntmps15
        go_upto_region 8 with (first | (go_at_call 32; refine HC.out.mono ?_; rintro e w1 ⟨rfl, hb1⟩; have HB1 := Lib.hid hb1; clear hb1) | (go_at_call 49; refine (HQ.out _ HL.out _ HB1.out).mono ?_; rintro e w2 ⟨rfl, hbq⟩; have hh1 := (hbq.block (w.heap.size + 1) (by have := HB1.out.size; simp at this; omega)).trans ((HB1.out.block (w.heap.size + 1) (by simp)).trans hn1); have c0 := (bcell hbq w.heap.size 0 (by have := HB1.out.size; simp at this; omega)).trans ((bcell HB1.out w.heap.size 0 (by simp; omega)).trans n0)))
        have hs2 := hbq.size
        have hs1 := HB1.out.size
        simp at hs1
        have hB2 : Below w.heap.size w w2 := (hb2.trans (HB1.out.mono (by simp; omega))).trans (hbq.mono (by omega))
        have hl20 : l.length ≤ 20 := by have := HM.out; unfold monsB at this; rw [Bool.and_eq_true, decide_eq_true_eq] at this; exact this.1
        have hsd : w2.drew.heap.size = w2.heap.size := rfl
        have c1 : w2.drew.cell? ⟨w.heap.size, 0, none⟩ = some (.slice A l.length lc) := c0
        clear HQ HB1 hbq
        go_region_held3 (fun w' => w'.cell? ⟨w.heap.size, 0, none⟩ = some (.slice A l.length lc)) (first | exact c1 | exact c5 | exact c6 _ | go_keep) ((go_at_call 52; refine (begin_any A lc l.length _ (by omega)).mono ?_; rintro e w5 ⟨ga, gb, rfl, hB5⟩; have c5 := (bcell hB5.bel w.heap.size 0 (by omega)).trans c1; have hs5 := hB5.bel.size; have c6 := fun o : Obj => (acell w5 o w.heap.size 0 (by omega)).trans c5))
        have hBW5 : Below w.heap.size w w5 := hB2.trans ((Below.refl w2.heap.size w2).drew.trans (hB5.bel.mono (by omega)) |>.mono (by omega))
        have hW0 : WT (w5.alloc (.cells #[.slice A l.length lc, .int .i64 0, .slice (some ⟨ga, 0, none⟩) l.length l.length, .slice (some ⟨gb, 0, none⟩) l.length l.length, .slice none 0 0] 88)) (w.heap.size + 2) w5.heap.size A (lc, l.length, l.length) l 0 ga gb (S 0) := by
          rw [HS0.out]
          exact init_WT ((HH.out.keep hBW5).more (by omega)) hB5.a hB5.b (by have := hB5.la; omega) (by have := hB5.lb; omega) hB5.ne
        have hB6 : Below w.heap.size w (w5.alloc (.cells #[.slice A l.length lc, .int .i64 0, .slice (some ⟨ga, 0, none⟩) l.length l.length, .slice (some ⟨gb, 0, none⟩) l.length l.length, .slice none 0 0] 88)) := hBW5.alloc (by omega) _
        have hh6 : (w5.alloc (.cells #[.slice A l.length lc, .int .i64 0, .slice (some ⟨ga, 0, none⟩) l.length l.length, .slice (some ⟨gb, 0, none⟩) l.length l.length, .slice none 0 0] 88)).heap[w.heap.size + 1]? = some (.cells #[.int .i64 0, .slice none 0 0, .slice none 0 0, .slice none 0 0] 27 (0, 0)) := (Below.heap_alloc w5 _ _ (by omega)).trans ((hB5.bel.block (w.heap.size + 1) (by omega)).trans hh1)
        have HW0' := Lib.hid hW0
        have HB6 := Lib.hid hB6
        have HH6 := Lib.hid hh6
        clear hW0 hB6 hh6 c0 c1 c5 c6 hh1 hB5 hB2 hBW5
        go_wp2_with fail
        go_loopw [31] (fun vi wr => ∃ k : Nat, k ≤ rs.length ∧ vi = .int .i64 k ∧ Hid (WT wr (w.heap.size + 2) w5.heap.size A (lc, l.length, l.length) l k ga gb (S k)) ∧ Below w.heap.size w wr ∧ Hid (wr.heap[w.heap.size + 1]? = some (.cells #[.int .i64 0, .slice none 0 0, .slice none 0 0, .slice none 0 0] 27 (0, 0)))) (fun vi _ => rs.length - (intOf vi).toNat)
        case atStart => exact ⟨0, Nat.zero_le _, rfl, HW0', HB6.out, HH6⟩
        case round =>
          obtain ⟨k, hk, rfl, HT, hbw, HHK⟩ := hrel
          by_cases hlt : k < rs.length
          · obtain ⟨row, b, off, Ap, cp, ht, rfl, hblt, t0, hcp, hri⟩ := (HR.out.keep hbw).at_ hlt
            have HTK := Lib.hid (HST.out HW0.out k row ht)
            have HRI := Lib.hid (hri.more (show w.heap.size ≤ w.heap.size + 2 by omega))
            clear ht hri
            go_wp2_with (go_at_call 53; refine (HTK.out _ _ _ A (lc, l.length, l.length) ga gb Ap cp HT.out HRI.out).mono ?_; rintro e w7 ⟨rfl, hT7, hb7⟩)
            go_roundw
            case rel => exact ⟨k + 1, by omega, by go_num, by push_cast; exact hT7, hbw.trans (hb7.mono (by omega)), (hb7.block (w.heap.size + 1) (by omega)).trans HHK.out⟩
            case measure => simp [intOf]; omega
          · obtain rfl : k = rs.length := by omega
            obtain ⟨_, _, V, K, hKK, hS⟩ := HT.out
            obtain ⟨Av, cv, rfl, _⟩ := hS.row.lenV
            have q1 := hS.g 1
            have q2 := hS.g 2
            have q3 := hS.g 3
            have q4 := hS.g 4
            simp at q1 q2 q3 q4
            have z0 := row_cell HHK.out 0
            have z1 := row_cell HHK.out 1
            have z2 := row_cell HHK.out 2
            have z3 := row_cell HHK.out 3
            simp only [List.getElem?_toArray, List.getElem?_cons_succ, List.getElem?_cons_zero] at z0 z1 z2 z3
            have y0 := row_frozen HHK.out 0
            have y1 := row_frozen HHK.out 1
            have y2 := row_frozen HHK.out 2
            have y3 := row_frozen HHK.out 3
            have HS := Lib.hid hS
            have HKK := Lib.hid hKK
            clear hS hKK
            go_wp2_with fail
            (try simp only [Exit.then, Exit.inBlock])
            exact bodyPost_ret (results_mem2 rfl _ _ (w.heap.size + 1) _ _ _ _ _ rfl (put4 HHK.out) rfl) rfl ⟨below_put4 hbw (Nat.le_succ _) _ _ _ _, .inr ⟨HW0.out, A, lc, w5.heap.size, ga, gb, _, K, rfl, HKK.out, HS.out.moved (((HH.out.keep (below_put4 hbw (Nat.le_succ _) _ _ _ _))).more (by omega)) (by simp) (fun b hb => heap_put4 (by omega) _ _ _ _)⟩⟩
  · have HC := Lib.hid (mcheck_any A lc l _ ((h.keep hb2).more hb2.size) (show checkM l = 100 by unfold checkM; rw [if_neg hm]))
    have HM := Lib.hid hm
    clear hm h hr hst hS0
    go_enter Tryd.func15, Tryd.ntmps15
    go_wp2_with (go_at_call 32; refine HC.out.mono ?_; rintro e w1 ⟨rfl, hb1⟩; have hh1 := (hb1.block (w.heap.size + 1) (by omega)).trans hn1; have z0 := row_cell hh1 0; have z1 := row_cell hh1 1; have z2 := row_cell hh1 2; have z3 := row_cell hh1 3; simp only [List.getElem?_toArray, List.getElem?_cons_succ, List.getElem?_cons_zero] at z0 z1 z2 z3; have y0 := row_frozen hh1 0; have y1 := row_frozen hh1 1; have y2 := row_frozen hh1 2; have y3 := row_frozen hh1 3)
    (try simp only [Exit.then, Exit.inBlock])
    exact bodyPost_ret (results_mem2 rfl _ _ (w.heap.size + 1) _ _ _ _ _ rfl (put4 hh1) rfl) rfl ⟨below_put4 (hb2.trans (hb1.mono (by simp; omega))) (Nat.le_succ _) _ _ _ _, .inl ⟨100, by unfold watchE; rw [if_neg HM.out], by decide, rfl⟩⟩
end Go.Proofs.YtonpemikodajdaaDoor
