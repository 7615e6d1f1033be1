/- Walk: Insert of one code ahead of others. -/
import Derived.Test.YtonpemikodajdaaDoorWd
import Derived.Test.YtonpemikodajdaaDoorWg
import Derived.Shelf.Spec.SlicesInsertGrow
namespace Go.Proofs.YtonpemikodajdaaDoor
open Go.RowKit Go.Lib

theorem run_copy_codes (w : World) (ty : TypeId) (b o dLen dCap : Nat) (a : Addr) (sLen sCap n : Nat) (cs : List Value) (hcl : cs.length = n * 6) (hn : n = Nat.min sLen dLen)
    (hsrc : ∀ j v, cs[j]? = some v → w.cell? (a.add j) = some v) (hc : ∀ j, j < cs.length → (w.cell? ⟨b, o + j, none⟩).isSome = true) (hf : ∀ j, j < cs.length → w.frozen? ⟨b, o + j, none⟩ = false) (h1 : ∀ v ∈ cs, v.oneCell' = true) :
    (Builtin.copy_ #[25, 25] ty #[.slice (some ⟨b, o, none⟩) dLen dCap, .slice (some a) sLen sCap]).run Tryd.prog w = .ok (goInt n) (w.setCells b o cs) := by
  obtain ⟨i0, hi, hz0, hz1, hz2⟩ := info_parts info_code
  have hl := run_loadCells_list (P := Tryd.prog) w a cs hsrc
  rw [hcl] at hl
  have hst := run_storeCells_cells (P := Tryd.prog) b o cs 0 w (by simpa using hc) (by simpa using hf) h1
  simp [Builtin.copy_, run_underlying under_codes, Builtin.lenOf, Builtin.firstCells, sizeOf, typeInfo, hi, hz1, ← hn, hl, hst]
/-- a row, longer by one where there is room -/
theorem own_longer {w : World} {base e size g n cap : Nat} {xs : List Value} (h : w.ownsRow base e size (.slice (some ⟨g, 0, none⟩) n cap) n xs) (hm : n + 1 ≤ cap) : ∃ ys, ys.length = size ∧ w.ownsRow base e size (.slice (some ⟨g, 0, none⟩) (n + 1) cap) (n + 1) (xs ++ ys) := by
  obtain ⟨hl, h2⟩ := h
  rcases h2 with ⟨h', _⟩ | ⟨g', cap', cur, h', hb, hg, hnc, hcm, hcs, htake⟩
  · simp at h'
  · simp only [Value.slice.injEq, Option.some.injEq, Addr.mk.injEq, and_true, true_and] at h'
    obtain ⟨rfl, rfl⟩ := h'
    have hms : (n + 1) * size ≤ cap * size := Nat.mul_le_mul_right _ hm
    have e1 : (n + 1) * size = n * size + size := by rw [Nat.add_mul, Nat.one_mul]
    have ht : cur.toList.take ((n + 1) * size) = xs ++ (cur.toList.drop (n * size)).take size := by
      rw [e1, List.take_add, htake]
    have hyl : ((cur.toList.drop (n * size)).take size).length = size := by
      rw [List.length_take, List.length_drop, Array.length_toList]; omega
    exact ⟨_, hyl, by rw [List.length_append, hyl, hl, e1], .inr ⟨g, cap, cur, rfl, hb, hg, hm, hcm, hcs, ht⟩⟩
/-- the cells behind an insertion -/
theorem ins_cells (K : List (MCode × Value)) (ix : Nat) (hix : ix ≤ K.length) (p : MCode × Value) (xs : List Value) (hx : xs.length = (K.length + 1) * 6) (ht : xs.take (ix * 6) = (K.take ix).flatMap cells6) :
    putMany (putMany xs ((ix + 1) * 6) ((K.drop ix).flatMap cells6)) (ix * 6) (cells6 p) = (K.take ix ++ p :: K.drop ix).flatMap cells6 := by
  have hn1 : ((K.drop ix).flatMap cells6).length = (K.length - ix) * 6 := by rw [cells6_len, List.length_drop]
  have hc6 : (cells6 p).length = 6 := rfl
  rw [putMany_eq _ xs _ (by rw [hn1, hx]; omega)]
  have hd : xs.drop ((ix + 1) * 6 + ((K.drop ix).flatMap cells6).length) = [] := by
    rw [List.drop_eq_nil_iff, hn1, hx]; omega
  rw [hd, List.append_nil]
  have htl : (xs.take ((ix + 1) * 6)).length = (ix + 1) * 6 := by rw [List.length_take, hx]; omega
  rw [putMany_eq _ _ _ (by rw [List.length_append, htl, hn1, hc6]; omega)]
  rw [List.take_append_of_le_length (by rw [htl]; omega), List.take_take, Nat.min_eq_left (by omega), ht]
  rw [hc6, show ix * 6 + 6 = (ix + 1) * 6 by omega, List.drop_left' htl]
  rw [List.flatMap_append, List.flatMap_cons, List.append_assoc]
theorem ins_cells2 (K : List (MCode × Value)) (ix : Nat) (hix : ix ≤ K.length) (p : MCode × Value) (xs : List Value) (hx : xs.length = (K.length + 1) * 6) (ht : xs.take (ix * 6) = (K.take ix).flatMap cells6) :
    putMany (putMany xs (ix * 6) (cells6 p)) ((ix + 1) * 6) ((K.drop ix).flatMap cells6) = (K.take ix ++ p :: K.drop ix).flatMap cells6 := by
  have hn1 : ((K.drop ix).flatMap cells6).length = (K.length - ix) * 6 := by rw [cells6_len, List.length_drop]
  have hc6 : (cells6 p).length = 6 := rfl
  rw [putMany_eq _ xs _ (by rw [hc6, hx]; omega), ht]
  have htl : ((K.take ix).flatMap cells6 ++ cells6 p).length = (ix + 1) * 6 := by rw [List.length_append, cells6_len, hc6, List.length_take]; omega
  rw [putMany_eq _ _ _ (by rw [List.length_append, htl, hn1, List.length_drop, hx, hc6]; omega), List.take_left' htl]
  have hd : List.drop ((ix + 1) * 6 + ((K.drop ix).flatMap cells6).length) ((K.take ix).flatMap cells6 ++ cells6 p ++ xs.drop (ix * 6 + (cells6 p).length)) = [] := by
    rw [List.drop_eq_nil_iff, List.length_append, htl, hn1, List.length_drop, hx, hc6]; omega
  rw [hd, List.append_nil]
  rw [List.flatMap_append, List.flatMap_cons, List.append_assoc]
theorem one_cells {K : List (MCode × Value)} (h : ∀ p ∈ K, p.2.oneCell' = true) : ∀ u ∈ K.flatMap cells6, u.oneCell' = true := by
  intro u hu
  rw [List.mem_flatMap] at hu
  obtain ⟨p, hp, hu⟩ := hu
  have := h p hp
  unfold cells6 at hu
  simp only [List.mem_cons, List.not_mem_nil, or_false] at hu
  rcases hu with rfl | rfl | rfl | rfl | rfl | rfl
  all_goals first | rfl | exact this
theorem drop_cells (K : List (MCode × Value)) (ix t : Nat) (hix : ix ≤ K.length) : ((K.drop ix).flatMap cells6)[t]? = (K.flatMap cells6)[ix * 6 + t]? := by
  have e : K.flatMap cells6 = (K.take ix).flatMap cells6 ++ (K.drop ix).flatMap cells6 := by rw [← List.flatMap_append, List.take_append_drop]
  have el : ((K.take ix).flatMap cells6).length = ix * 6 := by rw [cells6_len, List.length_take]; omega
  rw [e, List.getElem?_append_right (by omega), el]
  congr 1; omega
theorem take_cells (K : List (MCode × Value)) (ix : Nat) (hix : ix ≤ K.length) : (K.flatMap cells6).take (ix * 6) = (K.take ix).flatMap cells6 := by
  have e : K.flatMap cells6 = (K.take ix).flatMap cells6 ++ (K.drop ix).flatMap cells6 := by rw [← List.flatMap_append, List.take_append_drop]
  have el : ((K.take ix).flatMap cells6).length = ix * 6 := by rw [cells6_len, List.length_take]; omega
  rw [e, List.take_left' el]
def zero6 : Value := .agg #[.int .i64 0, .int .i64 0, .int .i64 0, .int .i64 0, .slice none 0 0, .bool false]
theorem zero6_size (n : Nat) : (Builtin.zeroCells zero6.cells n).size = n * 6 := by
  unfold Builtin.zeroCells
  rw [Array.size_map, Array.size_range]
  rfl
theorem RowC.drew {w : World} {base : Nat} {V : Value} {K : List (MCode × Value)} (h : RowC w base V K) : RowC w.drew base V K := h
theorem grown_drew {w w' : World} {r : Option Nat} (h : w.grownBy w' r) : w.grownBy w'.drew r := ⟨h.os, h.tape, h.output, h.size, h.block⟩
def InsP (w w' : World) (base g ix : Nat) (K : List (MCode × Value)) (p : MCode × Value) (e : Ending) : Prop :=
  (∃ g' cap', e = .returned (.slice (some ⟨g', 0, none⟩) (K.length + 1) cap') ∧ RowC w' base (.slice (some ⟨g', 0, none⟩) (K.length + 1) cap') (K.take ix ++ p :: K.drop ix) ∧ (g' = g ∨ g' = w.heap.size)) ∧ w.grownBy w' (some g)
set_option maxRecDepth 100000 in
set_option maxHeartbeats 4000000 in
theorem insert_room (g cap ix nb : Nat) (K : List (MCode × Value)) (p : MCode × Value) (base : Nat) (w : World) (h : RowC w base (.slice (some ⟨g, 0, none⟩) K.length cap) K) (hix : ix < K.length) (hone : ∀ p ∈ K, p.2.oneCell' = true) (hp : p.2.oneCell' = true)
    (hnb : w.heap[nb]? = some (.cells (cells6 p).toArray 46 (0, 0))) (hne : nb ≠ g) (hlen : K.length ≤ 1000000) (hroom : K.length + 1 ≤ cap) :
    Calls Tryd.prog 114 #[.slice (some ⟨g, 0, none⟩) K.length cap, .int .i64 ix, .slice (some ⟨nb, 0, none⟩) 1 1] w fun e w' => InsP w w' base g ix K p e := by
  have hr : w.ownsRow base 46 6 (.slice (some ⟨g, 0, none⟩) K.length cap) K.length (K.flatMap cells6) := h
  obtain ⟨cur, hgh, hcs, hbig⟩ : ∃ cur, w.heap[g]? = some (.cells cur 46 (0, 0)) ∧ cur.size = cap * 6 ∧ cap ≤ maxLen := by
    rcases h.2 with ⟨h', _⟩ | ⟨g', cap', cur, h', hb, hg, hnc, hcm, hcs, htake⟩
    · simp at h'
    · simp only [Value.slice.injEq, Option.some.injEq, Addr.mk.injEq, and_true, true_and] at h'
      obtain ⟨rfl, rfl⟩ := h'
      exact ⟨cur, hg, hcs, hcm⟩
  unfold maxLen at hbig
  obtain ⟨ys, hyl, hl⟩ := own_longer hr hroom
  obtain ⟨news, hnews⟩ : ∃ news, news = (K.drop ix).flatMap cells6 := ⟨_, rfl⟩
  have hnl : news.length = (K.length - ix) * 6 := by rw [hnews, cells6_len, List.length_drop]
  obtain ⟨o1, g1⟩ := own_setCells news ((ix + 1) * 6) w _ hl
  obtain ⟨o2, g2⟩ := own_setCells (cells6 p) (ix * 6) _ _ o1
  rw [hnews, ins_cells K ix (by omega) p _ (by rw [List.length_append, hyl, cells6_len]; omega) (by rw [List.take_append_of_le_length (by rw [cells6_len]; omega), take_cells K ix (by omega)]), ← hnews] at o2
  have hfin : RowC ((w.setCells g ((ix + 1) * 6) news).setCells g (ix * 6) (cells6 p)) base (.slice (some ⟨g, 0, none⟩) (K.length + 1) cap) (K.take ix ++ p :: K.drop ix) := by
    unfold RowC
    rw [show (K.take ix ++ p :: K.drop ix).length = K.length + 1 by rw [List.length_append, List.length_cons, List.length_take, List.length_drop]; omega]
    exact o2
  have hgr : w.grownBy ((w.setCells g ((ix + 1) * 6) news).setCells g (ix * 6) (cells6 p)) (some g) := ⟨g2.os.trans g1.os, g2.tape.trans g1.tape, g2.output.trans g1.output, Nat.le_trans g1.size g2.size, fun k hk hne => (g2.block k (Nat.lt_of_lt_of_le hk g1.size) hne).trans (g1.block k hk hne)⟩
  have u25 := under_codes
  have hsz6 : ∀ w, (Go.sizeOf 46).run Tryd.prog w = .ok 6 w := fun w => by
    obtain ⟨i0, hi, hz0, hz1, hz2⟩ := info_parts info_code
    simp [sizeOf, typeInfo, hi, hz1]
  have hov : ∀ lb cb, (callFunc 121 #[.slice (some ⟨nb, 0, none⟩) 1 1, .slice (some ⟨g, (ix + 1) * 6, none⟩) lb cb]).run Tryd.prog w = .ok (.value (.bool false)) w := fun lb cb => by
    rw [run_callFunc_extern (P := Tryd.prog) (f := 121) Tryd.func121 (by kernel_rfl) (by kernel_rfl) (by kernel_rfl) (e := Extern.SlicesOverlaps.overlaps #[25, 25] #[4]) (by kernel_rfl),
      Lib.run_overlaps_apart w 25 4 46 under_codes 6 hsz6 ⟨nb, 0, none⟩ ⟨g, (ix + 1) * 6, none⟩ 1 1 lb cb hne 46 46 6 (cap * 6) (by simp [World.shape?, hnb, cells6]) (by simp [World.shape?, hgh, hcs]) (by omega) (by simp [World.frozen?, hnb]) (by simp [World.frozen?, hnb])]
    rfl
  have mixed : Tryd.prog.follows .mixedOrders = true := by kernel_rfl
  have s1 : ∀ u ∈ news, u.oneCell' = true := by rw [hnews]; exact fun u hu => one_cells (K := K) hone u (by
    rw [List.mem_flatMap] at hu ⊢
    obtain ⟨q, hq, hu⟩ := hu
    exact ⟨q, List.mem_of_mem_drop hq, hu⟩)
  have s2 : ∀ u ∈ cells6 p, u.oneCell' = true := by
    have := one_cells (K := [p]) (by simpa using hp)
    simpa using this
  have hsome : ∀ j, j < (K.length + 1) * 6 → (w.cell? ⟨g, j, none⟩).isSome = true ∧ w.frozen? ⟨g, j, none⟩ = false := fun j hj => by
    have hl1 := hl.1
    refine ⟨?_, World.ownsRow.frozenAt hl _⟩
    rw [World.ownsRow.cellAt hl j (by omega), List.getElem?_eq_getElem (by omega)]; rfl
  have hcp1 : ∀ ty dc sc, (Builtin.copy_ #[25, 25] ty #[.slice (some ⟨g, (ix + 1) * 6, none⟩) (K.length - ix) dc, .slice (some ⟨g, ix * 6, none⟩) (K.length + 1 - ix) sc]).run Tryd.prog w.drew = .ok (goInt (K.length - ix : Nat)) (w.drew.setCells g ((ix + 1) * 6) news) := fun ty dc sc =>
    run_copy_codes w.drew ty g ((ix + 1) * 6) _ dc ⟨g, ix * 6, none⟩ _ sc (K.length - ix) news hnl (by simp only [Nat.min_def]; split <;> omega)
      (fun j v hj => by
        rw [Addr.add_lit]
        rw [hnews, drop_cells K ix j (by omega)] at hj
        have hjl : ix * 6 + j < (K.flatMap cells6).length := by
          rcases Nat.lt_or_ge (ix * 6 + j) (K.flatMap cells6).length with hh | hh
          · exact hh
          · rw [List.getElem?_eq_none hh] at hj; cases hj
        rw [cells6_len] at hjl
        exact (World.ownsRow.cellAt hr (ix * 6 + j) (by omega)).trans hj)
      (fun j hj => (hsome _ (by omega)).1) (fun j hj => (hsome _ (by omega)).2) s1
  obtain ⟨W1, hW1⟩ : ∃ W1, W1 = w.drew.setCells g ((ix + 1) * 6) news := ⟨_, rfl⟩
  have hcp2 : ∀ ty dc, (Builtin.copy_ #[25, 25] ty #[.slice (some ⟨g, ix * 6, none⟩) (K.length + 1 - ix) dc, .slice (some ⟨nb, 0, none⟩) 1 1]).run Tryd.prog W1 = .ok (goInt (1 : Nat)) (W1.setCells g (ix * 6) (cells6 p)) := fun ty dc =>
    run_copy_codes W1 ty g (ix * 6) _ dc ⟨nb, 0, none⟩ 1 1 1 (cells6 p) rfl (by simp only [Nat.min_def]; split <;> omega)
      (fun j v hj => by
        rw [Addr.add_lit, hW1, World.cell?_setCells_out g _ _ _ _ (fun h _ => absurd h hne), Nat.zero_add]
        show w.cell? _ = _
        rw [row_cell hnb]
        simpa using hj)
      (fun j hj => by
        have : (cells6 p).length = 6 := rfl
        rw [hW1]
        exact isSome_setCells g news ((ix + 1) * 6) w.drew (fun t ht => (hsome _ (by omega)).1) _ (hsome _ (by omega)).1) (fun j hj => by
        have : (cells6 p).length = 6 := rfl
        rw [hW1, World.frozen?_setCells]; exact (hsome _ (by omega)).2) s2
  rw [← hW1] at hcp1
  have HF := Lib.hid hfin
  have HG := Lib.hid hgr
  have HW := Lib.hid hW1
  have hw1 : IntKind.i64.wrap ((ix : Int) + 1) = (ix : Int) + 1 := by rw [IntKind.wrap_i64]; omega
  have hb1 : (0 : Int) ≤ (ix : Int) + 1 := by omega
  have hin : ix ≤ K.length := by omega
  have htn : ((ix : Int) + 1).toNat = ix + 1 := by omega
  have hb2 : ¬ (cap = ix + 1) := by omega
  have hb3 : (ix : Int) ≤ (K.length : Int) + 1 := by omega
  have hb4 : ¬ (cap = ix) := by omega
  clear hfin hgr hW1 hsome s1 s2 o1 o2 g1 g2 hl hyl hnl hnews hr hone h hgh hcs hnb hsz6
  go_enter Tryd.func114, Tryd.ntmps114
  go_wp2_with (simp only [hov])
  go_region_law_o (refine step_copy_runI rfl _ _ 25 25 rfl _ _ (by simp [Act.eval, Act.put]) (by simp [Act.eval, Act.put]) (hcp1 _ _ _) ?_)
  go_wp2_with (at_builtin; refine wpList_copy_runI _ rfl _ _ 25 25 rfl _ _ rfl rfl (hcp2 _ _) ?_)
  rw [HW.out, ← drew_setCells, ← drew_setCells]
  go_ret
  exact ⟨⟨g, cap, rfl, HF.out.drew, .inl rfl⟩, grown_drew HG.out⟩
set_option maxRecDepth 100000 in
set_option maxHeartbeats 4000000 in
theorem insert_grow (g ix nb : Nat) (K : List (MCode × Value)) (p : MCode × Value) (base : Nat) (w : World) (h : RowC w base (.slice (some ⟨g, 0, none⟩) K.length K.length) K) (hix : ix < K.length) (hone : ∀ p ∈ K, p.2.oneCell' = true) (hp : p.2.oneCell' = true)
    (hnb : w.heap[nb]? = some (.cells (cells6 p).toArray 46 (0, 0))) (hlen : K.length ≤ 1000000) (hbase : base ≤ w.heap.size) :
    Calls Tryd.prog 114 #[.slice (some ⟨g, 0, none⟩) K.length K.length, .int .i64 ix, .slice (some ⟨nb, 0, none⟩) 1 1] w fun e w' => InsP w w' base g ix K p e := by
  have hr : w.ownsRow base 46 6 (.slice (some ⟨g, 0, none⟩) K.length K.length) K.length (K.flatMap cells6) := h
  have u25 := under_codes
  have u3 : Tryd.prog.underlying 3 = some (.int .i64) := by kernel_rfl
  obtain ⟨i0, hi, hz0, hz1, hz2⟩ := info_parts info_code
  obtain ⟨news, hnews⟩ : ∃ news, news = (K.drop ix).flatMap cells6 := ⟨_, rfl⟩
  have hnl : news.length = (K.length - ix) * 6 := by rw [hnews, cells6_len, List.length_drop]
  have hgw : g < w.heap.size := (own_block_lt hr g rfl).2
  have hnw : nb < w.heap.size := by
    rcases Nat.lt_or_ge nb w.heap.size with hlt | hge
    · exact hlt
    · rw [Array.getElem?_eq_none hge] at hnb; cases hnb
  have hik : ix + (K.length + 1 - ix) = K.length + 1 := by omega
  have hkk : (K.length : Int) + 1 - (ix : Int) = ((K.length + 1 - ix : Nat) : Int) := by omega
  have hat : ∀ t v, (K.flatMap cells6)[t]? = some v → w.cell? ⟨g, t, none⟩ = some v := fun t v ht => by
    have hjl : t < (K.flatMap cells6).length := by
      rcases Nat.lt_or_ge t (K.flatMap cells6).length with hh | hh
      · exact hh
      · rw [List.getElem?_eq_none hh] at ht; cases ht
    rw [cells6_len] at hjl
    exact (World.ownsRow.cellAt hr t (by omega)).trans ht
  have hold : (Builtin.firstCells i0.size ix (.slice (some ⟨g, 0, none⟩) ix K.length)).run Tryd.prog w.drew = .ok ((K.take ix).flatMap cells6).toArray w.drew := by
    rw [hz1]
    exact run_firstCells_some w.drew 6 ix ⟨g, 0, none⟩ ix K.length ((K.take ix).flatMap cells6) (by rw [cells6_len, List.length_take]; omega) (fun j v hj => by
      rw [Addr.add_lit, Nat.zero_add]
      rw [← take_cells K ix (by omega), List.getElem?_take] at hj
      split at hj
      · exact hat j v hj
      · cases hj)
  obtain ⟨G, hG⟩ : ∃ G, G = grownCap w (K.length + 1) K.length 46 := ⟨_, rfl⟩
  obtain ⟨ROW, hROW⟩ : ∃ ROW : Array Value, ROW = ((K.take ix).flatMap cells6).toArray ++ Builtin.zeroCells zero6.cells (K.length + 1 - ix) ++ Builtin.zeroCells zero6.cells (G - (K.length + 1)) := ⟨_, rfl⟩
  have hrz : ∀ ty, (Builtin.append_ #[25, 3] ty #[.slice (some ⟨g, 0, none⟩) ix K.length, .int .i64 ((K.length : Int) + 1 - (ix : Int))]).run Tryd.prog w =
      .ok (.slice (some ⟨w.heap.size, 0, none⟩) (K.length + 1) G) (w.drew.alloc (.cells ROW 46)) := fun ty => by
    have h := Lib.run_append_grow_zeros w 25 3 ty 46 i0 zero6 .i64 .i64 under_codes u3 hi hz0 (some ⟨g, 0, none⟩) ix K.length ((K.take ix).flatMap cells6) hold (K.length + 1 - ix) (by omega) (by omega) (by omega) (by omega) (by rw [hz2]; omega) (by rw [hz2, hik]; exact growslice_fits (by omega) (by omega))
    rw [hik, ← hG, ← hROW] at h
    rw [hkk]
    exact h
  have hGn : K.length + 1 ≤ G := by rw [hG]; exact grownCap_ge w _ _ _
  have hGm : G ≤ maxLen := by rw [hG]; exact grownCap_le_maxLen w _ _ _ (by unfold maxLen; omega)
  have hG63 : G ≤ 9223372036854775807 := by unfold maxLen at hGm; omega
  have hRs : ROW.size = G * 6 := by
    rw [hROW, Array.size_append, Array.size_append, zero6_size, zero6_size, List.size_toArray, cells6_len, List.length_take, Nat.min_eq_left (by omega)]
    clear hG hROW hrz
    omega
  obtain ⟨W1, hW1⟩ : ∃ W1, W1 = w.drew.alloc (.cells ROW 46) := ⟨_, rfl⟩
  rw [← hW1] at hrz
  have hh1 : W1.heap[w.heap.size]? = some (.cells ROW 46 (0, 0)) := by rw [hW1]; exact heap_alloc_new w.drew _
  have hl : W1.ownsRow base 46 6 (.slice (some ⟨w.heap.size, 0, none⟩) (K.length + 1) G) (K.length + 1) (ROW.toList.take ((K.length + 1) * 6)) :=
    ⟨by rw [List.length_take]; show min _ ROW.size = _; rw [hRs]; clear hG hROW hrz hh1; omega, .inr ⟨_, _, ROW, rfl, hbase, hh1, hGn, hGm, hRs, rfl⟩⟩
  have hN : ∀ j, j < (K.length + 1) * 6 → (W1.cell? ⟨w.heap.size, j, none⟩).isSome = true := fun j hj => by
    rw [row_cell hh1, Array.getElem?_eq_getElem (by rw [hRs]; omega)]; rfl
  have hNf : ∀ j, W1.frozen? ⟨w.heap.size, j, none⟩ = false := fun j => row_frozen hh1 j
  have hold1 : ∀ b j, b < w.heap.size → W1.cell? ⟨b, j, none⟩ = w.cell? ⟨b, j, none⟩ := fun b j hb => by rw [hW1]; exact acell w.drew _ b j hb
  have s1 : ∀ u ∈ news, u.oneCell' = true := by rw [hnews]; exact fun u hu => one_cells (K := K) hone u (by
    rw [List.mem_flatMap] at hu ⊢
    obtain ⟨q, hq, hu⟩ := hu
    exact ⟨q, List.mem_of_mem_drop hq, hu⟩)
  have s2 : ∀ u ∈ cells6 p, u.oneCell' = true := by
    have := one_cells (K := [p]) (by simpa using hp)
    simpa using this
  have hc6 : (cells6 p).length = 6 := rfl
  have hgne : g ≠ w.heap.size := by omega
  have hcpA : ∀ (W : World), (∀ x, W.cell? x = W1.cell? x) → (∀ x, W.frozen? x = W1.frozen? x) → ∀ ty dc, (Builtin.copy_ #[25, 25] ty #[.slice (some ⟨w.heap.size, ix * 6, none⟩) (K.length + 1 - ix) dc, .slice (some ⟨nb, 0, none⟩) 1 1]).run Tryd.prog W = .ok (goInt (1 : Nat)) (W.setCells w.heap.size (ix * 6) (cells6 p)) := fun W hWc hWf ty dc =>
    run_copy_codes W ty w.heap.size (ix * 6) _ dc ⟨nb, 0, none⟩ 1 1 1 (cells6 p) rfl (by simp only [Nat.min_def]; split <;> omega)
      (fun j v hj => by
        rw [Addr.add_lit, hWc, hold1 nb _ hnw, Nat.zero_add, row_cell hnb]
        simpa using hj)
      (fun j hj => by rw [hWc]; exact hN _ (by omega)) (fun j hj => by rw [hWf]; exact hNf _) s2
  have hcpB : ∀ (W : World), (∀ x, W.cell? x = (W1.setCells w.heap.size (ix * 6) (cells6 p)).cell? x) → (∀ x, W.frozen? x = (W1.setCells w.heap.size (ix * 6) (cells6 p)).frozen? x) → ∀ ty dc sc, (Builtin.copy_ #[25, 25] ty #[.slice (some ⟨w.heap.size, (ix + 1) * 6, none⟩) (K.length - ix) dc, .slice (some ⟨g, ix * 6, none⟩) (K.length - ix) sc]).run Tryd.prog W = .ok (goInt (K.length - ix : Nat)) (W.setCells w.heap.size ((ix + 1) * 6) news) := fun W hWc hWf ty dc sc =>
    run_copy_codes W ty w.heap.size ((ix + 1) * 6) _ dc ⟨g, ix * 6, none⟩ _ sc (K.length - ix) news hnl (by simp only [Nat.min_def]; split <;> omega)
      (fun j v hj => by
        rw [Addr.add_lit, hWc, World.cell?_setCells_out _ _ _ _ _ (fun h _ => absurd h hgne), hold1 g _ hgw]
        rw [hnews, drop_cells K ix j (by omega)] at hj
        exact hat _ v hj)
      (fun j hj => by rw [hWc]; exact isSome_setCells _ (cells6 p) (ix * 6) W1 (fun t ht => hN _ (by omega)) _ (hN _ (by omega)))
      (fun j hj => by rw [hWf, World.frozen?_setCells]; exact hNf _) s1
  obtain ⟨o1, g1⟩ := own_setCells (cells6 p) (ix * 6) W1 _ hl
  obtain ⟨o2, g2⟩ := own_setCells news ((ix + 1) * 6) _ _ o1
  have hRt : (ROW.toList.take ((K.length + 1) * 6)).take (ix * 6) = (K.take ix).flatMap cells6 := by
    rw [List.take_take, Nat.min_eq_left (by omega), hROW, Array.toList_append, Array.toList_append, List.append_assoc]
    exact List.take_left' (by show ((K.take ix).flatMap cells6).length = _; rw [cells6_len, List.length_take]; omega)
  rw [hnews, ins_cells2 K ix (by omega) p _ hl.1 hRt, ← hnews] at o2
  have hfin : RowC ((W1.setCells w.heap.size (ix * 6) (cells6 p)).setCells w.heap.size ((ix + 1) * 6) news) base (.slice (some ⟨w.heap.size, 0, none⟩) (K.length + 1) G) (K.take ix ++ p :: K.drop ix) := by
    unfold RowC
    rw [show (K.take ix ++ p :: K.drop ix).length = K.length + 1 by rw [List.length_append, List.length_cons, List.length_take, List.length_drop]; omega]
    exact o2
  have hgr : w.grownBy ((W1.setCells w.heap.size (ix * 6) (cells6 p)).setCells w.heap.size ((ix + 1) * 6) news) (some g) := by
    have g0 : w.grownBy W1 none := by rw [hW1]; exact ⟨rfl, rfl, rfl, by simp, fun k hk _ => Below.heap_alloc w.drew _ k hk⟩
    have hs1 : w.heap.size < W1.heap.size := by rw [hW1]; simp
    exact ⟨g2.os.trans (g1.os.trans g0.os), g2.tape.trans (g1.tape.trans g0.tape), g2.output.trans (g1.output.trans g0.output), Nat.le_trans g0.size (Nat.le_trans g1.size g2.size), fun k hk _ =>
      (g2.block k (Nat.lt_of_lt_of_le (Nat.lt_trans hk hs1) g1.size) (fun e => by injection e with e; omega)).trans ((g1.block k (Nat.lt_trans hk hs1) (fun e => by injection e with e; omega)).trans (g0.block k hk (by simp)))⟩
  have HF := Lib.hid hfin
  have HG := Lib.hid hgr
  have hGi : ¬ (G = ix) := by omega
  have hGim : ¬ (G = ix + 1) := by omega
  have hci : ¬ (K.length = ix) := by omega
  have hw1 : IntKind.i64.wrap ((ix : Int) + 1) = (ix : Int) + 1 := by rw [IntKind.wrap_i64]; omega
  have hb1 : (0 : Int) ≤ (ix : Int) + 1 := by omega
  have hin : ix ≤ K.length := by omega
  have htn : ((ix : Int) + 1).toNat = ix + 1 := by omega
  have mixed : Tryd.prog.follows .mixedOrders = true := by kernel_rfl
  have hz2 : ¬ ((ix : Int) = (K.length : Int)) := by omega
  clear hkk hik hold hROW hG hRs hRt o1 o2 g1 g2 hfin hgr hN hNf hold1 s1 s2 hc6 hl hat hnl hnews hr h hh1 hone hnb
  generalize cells6 p = vs at *
  subst hW1
  have hE1 : ∀ x, ((w.alloc (.cells ROW 46)).drew).cell? x = (w.drew.alloc (.cells ROW 46)).cell? x := fun x => rfl
  have hE2 : ∀ x, ((w.alloc (.cells ROW 46)).drew).frozen? x = (w.drew.alloc (.cells ROW 46)).frozen? x := fun x => rfl
  have hF1 : ∀ x, (((w.alloc (.cells ROW 46)).drew.setCells w.heap.size (ix * 6) vs).drew).cell? x = ((w.drew.alloc (.cells ROW 46)).setCells w.heap.size (ix * 6) vs).cell? x := fun x => rfl
  have hF2 : ∀ x, (((w.alloc (.cells ROW 46)).drew.setCells w.heap.size (ix * 6) vs).drew).frozen? x = ((w.drew.alloc (.cells ROW 46)).setCells w.heap.size (ix * 6) vs).frozen? x := fun x => rfl
  go_enter Tryd.func114, Tryd.ntmps114
  go_wp2_with (first
    | (at_builtin; refine Lib.wpList_append_run _ rfl _ _ _ _ rfl _ _ rfl rfl _ _ (hrz _) ?_)
    | (at_builtin; refine wpList_copy_runI _ rfl _ _ 25 25 rfl _ _ rfl rfl (hcpA _ hE1 hE2 _ _) ?_))
  go_region_law_o (refine step_copy_runI rfl _ _ 25 25 rfl (.slice (some ⟨w.heap.size, (ix + 1) * 6, none⟩) (K.length - ix) (G - (ix + 1))) (.slice (some ⟨g, ix * 6, none⟩) (K.length - ix) (K.length - ix)) (by simp [Act.eval, Act.put]) (by simp [Act.eval, Act.put]) (hcpB _ hF1 hF2 3 (G - (ix + 1)) (K.length - ix)) ?_)
  go_wp2_with fail
  have hA : (w.alloc (.cells ROW 46)).drew = w.drew.alloc (.cells ROW 46) := rfl
  rw [hA, ← drew_setCells]
  go_ret
  exact ⟨⟨w.heap.size, G, rfl, HF.out.drew, .inr rfl⟩, grown_drew HG.out⟩
/-- Insert of one code at any place -/
theorem insert_any (V : Value) (ix nb : Nat) (K : List (MCode × Value)) (p : MCode × Value) (base : Nat) (w : World) (h : RowC w base V K) (hix : ix ≤ K.length) (hone : ∀ p ∈ K, p.2.oneCell' = true) (hp : p.2.oneCell' = true)
    (hnb : w.heap[nb]? = some (.cells (cells6 p).toArray 46 (0, 0))) (hne : V.ownBlock ≠ some nb) (hlen : K.length ≤ 1000000) (hbase : base ≤ w.heap.size) :
    Calls Tryd.prog 114 #[V, .int .i64 ix, .slice (some ⟨nb, 0, none⟩) 1 1] w fun e w' => (∃ g cap, e = .returned (.slice (some ⟨g, 0, none⟩) (K.length + 1) cap) ∧ RowC w' base (.slice (some ⟨g, 0, none⟩) (K.length + 1) cap) (K.take ix ++ p :: K.drop ix) ∧ (V.ownBlock = some g ∨ g = w.heap.size)) ∧ w.grownBy w' V.ownBlock := by
  by_cases he : ix = K.length
  · subst he
    refine (insert_end V K nb p base w h hp (fun j u hj => ?_) hlen hbase).mono ?_
    · rw [row_cell hnb]; simpa using hj
    · rintro e w' ⟨⟨g, cap, h1, h2, h3⟩, h4⟩
      exact ⟨⟨g, cap, h1, by rw [List.take_length, List.drop_length]; exact h2, h3⟩, h4⟩
  · have hlt : ix < K.length := by omega
    rcases id h.2 with ⟨_, h0⟩ | ⟨g, cap, cur, hv, hg, hh, hnc, r⟩
    · omega
    · subst hv
      have hne' : nb ≠ g := fun e => hne (by rw [e]; rfl)
      have key : Calls Tryd.prog 114 #[.slice (some ⟨g, 0, none⟩) K.length cap, .int .i64 ix, .slice (some ⟨nb, 0, none⟩) 1 1] w fun e w' => InsP w w' base g ix K p e := by
        by_cases hr : K.length + 1 ≤ cap
        · exact insert_room g cap ix nb K p base w h hlt hone hp hnb hne' hlen hr
        · obtain rfl : cap = K.length := by omega
          exact insert_grow g ix nb K p base w h hlt hone hp hnb hlen hbase
      refine key.mono ?_
      rintro e w' ⟨⟨g', cap', h1, h2, h3⟩, h4⟩
      refine ⟨⟨g', cap', h1, h2, ?_⟩, h4⟩
      rcases h3 with rfl | h3
      · exact .inl rfl
      · exact .inr h3
end Go.Proofs.YtonpemikodajdaaDoor
