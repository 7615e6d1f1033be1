/- Walk: the law of Watch. -/
import Derived.Test.YtonpemikodajdaaDoorMm
import Derived.Test.YtonpemikodajdaaDoorMd
import Derived.Test.YtonpemikodajdaaDoorWk
namespace Go.Proofs.YtonpemikodajdaaDoor
open Go.RowKit

def endT (l : List MMon) (rs : List (List Int)) : Int := if watchE l rs = 0 then (rs.length : Int) else 0
def endS (l : List MMon) (rs : List (List Int)) : WSt := if watchE l rs = 0 then watchOf l rs rs.length else ⟨[], [], []⟩
theorem zero_mem (w : World) : MemA w w.heap.size zeroMem 0 ⟨[], [], []⟩ :=
  ⟨none, 0, none, 0, none, 0, rfl, ⟨by decide, fun h => by cases h⟩, ⟨by decide, fun h => by cases h⟩, ⟨by decide, fun _ => (none, 0), (fun h => by cases h), fun i hi => by cases hi⟩, Nat.le_refl _, Nat.le_refl _, Nat.le_refl _⟩
theorem WS.mem {w : World} {B wb : Nat} {A : Option Addr} {lc : Caps} {l : List MMon} {tick : Int} {cb : Nat} {ns : List Int} {kb : Nat} {cs : List Int} {V : Value} {K : List (MCode × Value)} (h : WS w B wb A lc l tick cb ns kb cs V K) (hns : ns.length = l.length) (hcs : cs.length = l.length) (hl : l.length ≤ 20) (hK : K.length ≤ 1000000) (hq : l.length ≤ lc.2.1 ∧ l.length ≤ lc.2.2) :
    MemA w w.heap.size (.agg #[.int .i64 tick, .slice (some ⟨cb, 0, none⟩) l.length lc.2.1, .slice (some ⟨kb, 0, none⟩) l.length lc.2.2, V]) tick ⟨ns, cs, K.map Prod.fst⟩ := by
  obtain ⟨Av, cap, rfl, hcap⟩ := h.row.lenV
  have h1 := h.cnt
  have h2 := h.clm
  rw [← hns] at h1
  rw [← hcs] at h2
  refine ⟨_, lc.2.1, _, lc.2.2, Av, cap, by show _ = Value.agg #[.int .i64 tick, .slice (some ⟨cb, 0, none⟩) ns.length lc.2.1, .slice (some ⟨kb, 0, none⟩) cs.length lc.2.2, .slice Av (K.map Prod.fst).length cap]; rw [List.length_map, hns, hcs], h1.ints (by unfold maxLen; omega), h2.ints (by unfold maxLen; omega), RowC.codes h.row h.frames hK, ?_, ?_, by simpa using hcap⟩
  · show ns.length ≤ _; omega
  · show cs.length ≤ _; omega
def WatchV (w : World) (l : List MMon) (rs : List (List Int)) (e : Ending) (w' : World) : Prop :=
  (∃ v, e = .returned (.tuple #[v, .int .i64 (watchE l rs)]) ∧ MemA w' w'.heap.size v (endT l rs) (endS l rs)) ∧ Below w.heap.size w w'
theorem watch_v {w w' : World} {l : List MMon} {rs : List (List Int)} {e : Ending} (h : WatchPost w l rs (watchOf l rs rs.length) e w') : WatchV w l rs e w' := by
  obtain ⟨hb, h⟩ := h
  rcases h with ⟨r, h1, h2, rfl⟩ | ⟨h1, A, lc, wb, cb, kb, V, K, rfl, hK, hS⟩
  · refine ⟨⟨zeroMem, by rw [h1], ?_⟩, hb⟩
    have hne : ¬ watchE l rs = 0 := by rw [h1]; exact h2
    unfold endT endS
    rw [if_neg hne, if_neg hne]
    exact zero_mem w'
  · have hm : monsB l = true := by
      unfold watchE at h1
      rcases hq : monsB l
      · rw [hq, if_neg (by decide)] at h1; exact absurd h1 (by decide)
      · rfl
    have hsk := SOk.watched hm rs rs.length
    have hl := monsB_len hm
    refine ⟨⟨_, by rw [h1], ?_⟩, hb⟩
    unfold endT endS
    rw [if_pos h1, if_pos h1]
    have := hS.mem hsk.ns hsk.cs hl (by have := hsk.few hl; have e := congrArg List.length hK; rw [List.length_map] at e; omega) ⟨Nat.le_refl _, Nat.le_refl _⟩
    rw [hK] at this
    exact this
theorem rwatch_v {w w' : World} {l : List MMon} {rs : List (List Int)} {e : Ending} (h : RWatchPost w l rs e w') : WatchV w l rs e w' := by
  obtain ⟨hb, h⟩ := h
  rcases h with ⟨r, h1, h2, rfl⟩ | ⟨h1, v, rfl, hO⟩
  · refine ⟨⟨zeroMem, by rw [h1], ?_⟩, hb⟩
    have hne : ¬ watchE l rs = 0 := by rw [h1]; exact h2
    unfold endT endS
    rw [if_neg hne, if_neg hne]
    exact zero_mem w'
  · have hm : monsB l = true := by
      unfold watchE at h1
      rcases hq : monsB l
      · rw [hq, if_neg (by decide)] at h1; exact absurd h1 (by decide)
      · rfl
    have hsk := SOk.watched hm rs rs.length
    have hl := monsB_len hm
    refine ⟨⟨v, by rw [h1], ?_⟩, hb⟩
    unfold endT endS
    rw [if_pos h1, if_pos h1]
    exact hO.mem (by have := hsk.few hl; omega)
theorem chain_w {w w2 w4 w6 : World} {X Y : Obj} (h2 : Below w.heap.size w w2) (h4 : Below (w2.alloc X).heap.size (w2.alloc X) w4) (h6 : Below (w4.alloc Y).heap.size (w4.alloc Y) w6) : Below w.heap.size w w6 := by
  have e2 := h2.size
  have e4 := h4.size
  simp at e4
  exact ((h2.alloc h2.size X).trans (h4.mono (by simp; omega))).alloc (by omega) Y |>.trans (h6.mono (by simp; omega))
set_option maxRecDepth 100000 in
set_option maxHeartbeats 4000000 in
theorem watches_any (A : Option Addr) (lc : Nat) (l : List MMon) (A2 : Option Addr) (rc : Nat) (rs : List (List Int)) (w : World) (h : MonsA w w.heap.size A l) (hr : RowsA w w.heap.size A2 rs) (hT : TabW w) :
    Calls Tryd.prog 3 #[.slice A l.length lc, .slice A2 rs.length rc] w fun e w' => e = .returned (.bool true) ∧ Below w.heap.size w w' := by
  have HC := Lib.hid (watch_of A lc l A2 rc rs w h hr)
  obtain ⟨T, hTT⟩ : ∃ T, endT l rs = T := ⟨_, rfl⟩
  obtain ⟨S, hSS⟩ : ∃ S, endS l rs = S := ⟨_, rfl⟩
  obtain ⟨r, hrr⟩ : ∃ r, watchE l rs = r := ⟨_, rfl⟩
  have HTT := Lib.hid hTT
  have HSS := Lib.hid hSS
  have HRR := Lib.hid hrr
  have HM := Lib.hid h
  have HR := Lib.hid hr
  have HTW := Lib.hid hT
  have hre : (r == r) = true := by simp
  clear hTT hSS hrr h hr hT
  go_enter Tryd.func3, Tryd.ntmps3
  go_wp2_with (first
    | (go_at_call 15; refine HC.out.mono ?_; intro e w2 hP; obtain ⟨⟨v, rfl, hMv⟩, hb2⟩ := watch_v hP; rw [HRR.out]; rw [HTT.out, HSS.out] at hMv; obtain ⟨A1, c1, B1, d1, C1, e1, rfl, hq⟩ := hMv; have HM2 : Hid (MemA w2 w2.heap.size (.agg #[.int .i64 T, .slice A1 S.ns.length c1, .slice B1 S.cs.length d1, .slice C1 S.ks.length e1]) T S) := ⟨A1, c1, B1, d1, C1, e1, rfl, hq⟩; have HB2 := Lib.hid hb2; clear hP hq hb2)
    | (go_at_call 16; refine (watch_r A lc l A2 rc rs _ ((HM.out.keep (HB2.out.alloc HB2.out.size _)).more (HB2.out.alloc HB2.out.size _).size) ((HR.out.keep (HB2.out.alloc HB2.out.size _)).more (HB2.out.alloc HB2.out.size _).size)).mono ?_; intro e w4 hP; obtain ⟨⟨v, rfl, hMv⟩, hb4⟩ := rwatch_v hP; rw [HRR.out]; rw [HTT.out, HSS.out] at hMv; obtain ⟨A3, c3, B3, d3, C3, e3, rfl, hq⟩ := hMv; have HM4 : Hid (MemA w4 w4.heap.size (.agg #[.int .i64 T, .slice A3 S.ns.length c3, .slice B3 S.cs.length d3, .slice C3 S.ks.length e3]) T S) := ⟨A3, c3, B3, d3, C3, e3, rfl, hq⟩; have HB4 := Lib.hid hb4; have hx := (hb4.block w2.heap.size (by simp)).trans (heap_alloc_new w2 _); have r0 := row_cell hx 0; have r1 := row_cell hx 1; have r2 := row_cell hx 2; have r3 := row_cell hx 3; simp only [List.getElem?_toArray, List.getElem?_cons_succ, List.getElem?_cons_zero] at r0 r1 r2 r3; have hxl := lt_of_block hx; have hs4 := hb4.size; clear hP hq hb4 hx)
    | (go_at_call 17; refine (same_mem _ _ T S _ ((HM2.out.below ((Below.refl _ _).alloc (Nat.le_refl _) _) (Nat.le_refl _)).below (HB4.out.trans (((Below.refl _ _).alloc (Nat.le_refl _) _).mono hs4)) (by simp) |>.more (by simp at hs4 ⊢; omega)) (HM4.out.below ((Below.refl _ _).alloc (Nat.le_refl _) _) (Nat.le_refl _) |>.more (by simp))).mono ?_; rintro e w6 ⟨rfl, hb6⟩; have HB6 := Lib.hid (chain_w HB2.out HB4.out hb6))
    | (go_at_call 18; refine (works_any _ (HTW.out.keep HB6.out)).mono ?_; rintro e w7 ⟨rfl, hb7⟩))
  go_ret
  exact ⟨rfl, HB6.out.trans (hb7.mono HB6.out.size)⟩
end Go.Proofs.YtonpemikodajdaaDoor
