/- Walk: Delete of one code. -/
import Derived.Test.YtonpemikodajdaaDoorWd
import Derived.Test.YtonpemikodajdaaDoorWe
import Derived.Deep.RegionLaw
import Derived.Shelf.RegionOpenPlain
import Derived.Lib.SliceRun
namespace Go.Proofs.YtonpemikodajdaaDoor
open Go.RowKit

def zs6 : List Value := [.int .i64 0, .int .i64 0, .int .i64 0, .int .i64 0, .slice none 0 0, .bool false]
theorem run_clear_code (w : World) (ty : TypeId) (g o c : Nat) (hc : ∀ j, j < 6 → (w.cell? ⟨g, o + j, none⟩).isSome = true) (hf : ∀ j, j < 6 → w.frozen? ⟨g, o + j, none⟩ = false) :
    (Builtin.clear_ #[25] ty #[.slice (some ⟨g, o, none⟩) 1 c]).run Tryd.prog w = .ok (.tuple #[]) (w.setCells g o zs6) := by
  obtain ⟨i0, hi, hz0, hz1, hz2⟩ := info_parts info_code
  have hv : ∀ w, (zeroValue 46).run Tryd.prog w = .ok (.agg #[.int .i64 0, .int .i64 0, .int .i64 0, .int .i64 0, .slice none 0 0, .bool false]) w := fun w => by simp [zeroValue, typeInfo, hi, hz0]
  have hzc : (Builtin.zeroCells (Value.cells (.agg #[.int .i64 0, .int .i64 0, .int .i64 0, .int .i64 0, .slice none 0 0, .bool false])) 1).toList = zs6 := by
    have hr : Array.range 6 = #[0, 1, 2, 3, 4, 5] := by decide
    simp [Builtin.zeroCells, Value.cells, zs6, hr]
  have hst := run_storeCells_cells (P := Tryd.prog) g o zs6 0 w (by simpa [zs6] using hc) (by simpa [zs6] using hf) (by intro v hv'; unfold zs6 at hv'; simp only [List.mem_cons, List.not_mem_nil, or_false] at hv'; rcases hv' with rfl | rfl | rfl | rfl | rfl | rfl <;> rfl)
  simp only [Nat.add_zero] at hst
  simp [Builtin.clear_, run_underlying under_codes, hv, hzc, hst]
set_option maxRecDepth 100000 in
set_option maxHeartbeats 4000000 in
theorem delete_any (g cap ix : Nat) (K : List (MCode × Value)) (base : Nat) (w : World) (h : RowC w base (.slice (some ⟨g, 0, none⟩) K.length cap) K) (hix : ix < K.length) (hone : ∀ p ∈ K, p.2.oneCell' = true) (hlen : K.length ≤ 1000000) :
    Calls Tryd.prog 115 #[.slice (some ⟨g, 0, none⟩) K.length cap, .int .i64 ix, .int .i64 ((ix + 1 : Nat) : Int)] w fun e w' => e = .returned (.slice (some ⟨g, 0, none⟩) (K.length - 1) cap) ∧ RowC w' base (.slice (some ⟨g, 0, none⟩) (K.length - 1) cap) (K.eraseIdx ix) ∧ w.grownBy w' (some g) := by
  have hcap : K.length ≤ cap := by
    obtain ⟨A, cap', e, hc⟩ := h.lenV
    injection e with e1 e2 e3
    omega
  have hbig : cap ≤ maxLen := by
    rcases h.2 with ⟨h', _⟩ | ⟨g', cap', cur, h', hb, hg, hnc, hcm, hcs, htake⟩
    · simp at h'
    · simp only [Value.slice.injEq, Option.some.injEq, Addr.mk.injEq, and_true, true_and] at h'
      obtain ⟨rfl, rfl⟩ := h'
      exact hcm
  unfold maxLen at hbig
  have hr : w.ownsRow base 46 6 (.slice (some ⟨g, 0, none⟩) K.length cap) K.length (K.flatMap cells6) := h
  obtain ⟨j, hj⟩ : ∃ j, j = ix + 1 := ⟨_, rfl⟩
  rw [← hj]
  obtain ⟨news, hnews⟩ : ∃ news, news = (K.drop j).flatMap cells6 := ⟨_, rfl⟩
  have hnl : news.length = (K.length - j) * 6 := by rw [hnews, cells6_len, List.length_drop]
  have hget : ∀ t, t < news.length → news[t]? = (K.flatMap cells6)[j * 6 + t]? := by
    intro t ht
    have e : K.flatMap cells6 = (K.take j).flatMap cells6 ++ news := by rw [hnews, ← List.flatMap_append, List.take_append_drop]
    have el : ((K.take j).flatMap cells6).length = j * 6 := by rw [cells6_len, List.length_take]; omega
    rw [e, List.getElem?_append_right (by omega), el]
    congr 1; omega
  obtain ⟨A, hA, hsrc⟩ : ∃ A : Addr, (if cap = j then (some ⟨g, 0, none⟩ : Option Addr) else some ⟨g, j * 6, none⟩) = some A ∧ Hid (∀ t u, news[t]? = some u → w.drew.cell? (A.add t) = some u) := by
    by_cases hc : cap = j
    · refine ⟨⟨g, 0, none⟩, by simp [hc], fun t u hu => ?_⟩
      have h0 : news.length = 0 := by rw [hnl]; omega
      rw [List.length_eq_zero_iff.1 h0] at hu
      simp at hu
    · refine ⟨⟨g, j * 6, none⟩, by simp [hc], fun t u hu => ?_⟩
      have ht : t < news.length := (List.getElem?_eq_some_iff.1 hu).1
      rw [Addr.add_lit]
      have := hget t ht
      rw [hu] at this
      exact (World.ownsRow.cellAt hr (j * 6 + t) (by omega)).trans this.symm
  have s1 : Hid (news.length = (K.length - j) * 6) := hnl
  have s2 : Hid (∀ u ∈ news, u.oneCell' = true) := by
    intro u hu
    rw [hnews, List.mem_flatMap] at hu
    obtain ⟨p, hp, hu⟩ := hu
    have := hone p (List.mem_of_mem_drop hp)
    unfold cells6 at hu
    simp only [List.mem_cons, List.not_mem_nil, or_false] at hu
    rcases hu with rfl | rfl | rfl | rfl | rfl | rfl
    all_goals first | rfl | exact this
  have s3 : Hid (∀ t, t < news.length → (w.drew.cell? ⟨g, 0 + ix * 6 + t, none⟩).isSome = true ∧ w.drew.frozen? ⟨g, 0 + ix * 6 + t, none⟩ = false) := by
    intro t ht
    refine ⟨?_, World.ownsRow.frozenAt hr _⟩
    show (w.cell? ⟨g, 0 + ix * 6 + t, none⟩).isSome = true
    rw [Nat.zero_add, World.ownsRow.cellAt hr (ix * 6 + t) (by omega), List.getElem?_eq_getElem (by rw [cells6_len]; omega)]
    rfl
  obtain ⟨W1, hW1⟩ : ∃ W1, W1 = w.drew.setCells g (0 + ix * 6) news := ⟨_, rfl⟩
  obtain ⟨o1, g1⟩ := own_setCells news (0 + ix * 6) w.drew _ (show w.drew.ownsRow base 46 6 (.slice (some ⟨g, 0, none⟩) K.length cap) K.length (K.flatMap cells6) from hr)
  rw [← hW1] at o1 g1
  have hcl : ∀ ty c, (Builtin.clear_ #[25] ty #[.slice (some ⟨g, (K.length - 1) * 6, none⟩) 1 c]).run Tryd.prog W1 = .ok (.tuple #[]) (W1.setCells g ((K.length - 1) * 6) zs6) := fun ty c =>
    run_clear_code W1 ty g _ c (fun q hq => by
      have hl1 := o1.1
      rw [World.ownsRow.cellAt o1 ((K.length - 1) * 6 + q) (by omega), List.getElem?_eq_getElem (by omega)]; rfl) (fun q hq => World.ownsRow.frozenAt o1 _)
  obtain ⟨o2, g2⟩ := own_setCells zs6 ((K.length - 1) * 6) W1 _ o1
  have o3 := own_short o2 (show K.length - 1 ≤ K.length by omega)
  rw [hnews, Nat.zero_add, hj, del_cells K ix hix zs6 rfl] at o3
  have hfin : RowC (W1.setCells g ((K.length - 1) * 6) zs6) base (.slice (some ⟨g, 0, none⟩) (K.length - 1) cap) (K.eraseIdx ix) := by
    unfold RowC
    rw [List.length_eraseIdx_of_lt hix]
    exact o3
  have hgr : w.grownBy (W1.setCells g ((K.length - 1) * 6) zs6) (some g) := ⟨g2.os.trans g1.os, g2.tape.trans g1.tape, g2.output.trans g1.output, Nat.le_trans g1.size g2.size, fun k hk hne => (g2.block k (Nat.lt_of_lt_of_le hk g1.size) hne).trans (g1.block k hk hne)⟩
  have HF := Lib.hid hfin
  have HG := Lib.hid hgr
  have hW := Lib.hid hW1
  have hjc : j ≤ cap := by omega
  have hjK : j ≤ K.length := by omega
  have hne : ix ≠ j := by omega
  have hij : ix < j := by omega
  have mixed : Tryd.prog.follows .mixedOrders = true := by kernel_rfl
  have ek : ix + (K.length - j) = K.length - 1 := by omega
  have ek1 : K.length - (ix + (K.length - j)) = 1 := by omega
  have hcl2 : ∀ ty c, (Builtin.clear_ #[25] ty #[.slice (some ⟨g, (ix + (K.length - j)) * 6, none⟩) (K.length - (ix + (K.length - j))) c]).run Tryd.prog W1 = .ok (.tuple #[]) (W1.setCells g ((K.length - 1) * 6) zs6) := by
    rw [ek1, ek]; exact hcl
  have EK := Lib.hid ek
  have HJ := Lib.hid hj
  clear ek ek1 hj hcl
  have hxc : ix ≤ cap := by omega
  obtain ⟨i0, hi, hz0, hz1, hz2⟩ := info_parts info_code
  clear o1 o2 o3 g1 g2 hfin hgr hW1 hget hnews hnl hr h hone
  go_enter Tryd.func115, Tryd.ntmps115
  go_wp2_with fail
  go_region_law_o (refine step_append_room rfl (.tmp 22) (.tmp 25) 25 rfl 46 i0 6 under_codes hi hz1 g 0 ix cap (by simp [Act.eval, Act.put]) A (K.length - j) (cap - j) news (by simp [Act.eval, Act.put]) s1.out hsrc.out s2.out (by omega) s3.out ?_; rw [← hW.out])
  go_wp2
  go_ret
  exact ⟨by rw [← EK.out]; rfl, HF.out, HG.out⟩
end Go.Proofs.YtonpemikodajdaaDoor
