/- Walks: the reference's all, same, mask, split, parts; comparisons of lists. -/
import Derived.Test.YtonpemikodajdaaDoorGx
import Derived.Test.YtonpemikodajdaaDoorGc
import Derived.Test.YtonpemikodajdaaDoorGu
import Derived.Deep.Cut
import Derived.Deep.CutBlock
import Derived.Deep.DeepCutAuto
import Derived.Deep.RegionLaw
namespace Go.Proofs.YtonpemikodajdaaDoor
open Go.RowKit

/-! ### all -/
def allI (n : Nat) : List Int := (List.range n).map fun (i : Nat) => (i : Int)
theorem allI_bits : ∀ n, n < 13 → allI n = bitsI (2 ^ n - 1) := by decide +kernel
theorem allI_full {c : MCase} (hn : c.weights.length ≤ 12) : allI c.weights.length = bitsI (fullS c) := allI_bits _ (by omega)
theorem allI_len (n : Nat) : (allI n).length = n := by unfold allI; rw [List.length_map, List.length_range]
theorem allI_succ (n : Nat) : allI (n + 1) = allI n ++ [(n : Int)] := by
  unfold allI
  rw [List.range_succ, List.map_append]
  rfl
set_option maxRecDepth 100000 in
theorem all_any (A1 A2 : Option Addr) (c1 c2 : Nat) (c : MCase) (w : World) (hn : c.weights.length ≤ 12) :
    Calls Tryd.prog 61 #[.agg #[.slice A1 c.weights.length c1, .slice A2 c.tests.length c2]] w fun e w' => (∃ v, e = .returned v ∧ OutI w' w.heap.size v (bitsI (fullS c))) ∧ Below w.heap.size w w' := by
  have hb1 : Below w.heap.size w (w.alloc (.cells #[.slice A1 c.weights.length c1, .slice A2 c.tests.length c2] 36)) := (Below.refl _ _).alloc (Nat.le_refl _) _
  have hsz : (w.alloc (.cells #[.slice A1 c.weights.length c1, .slice A2 c.tests.length c2] 36)).heap.size = w.heap.size + 1 := by simp
  have n0 := newcell w #[.slice A1 c.weights.length c1, .slice A2 c.tests.length c2] 36 0
  simp only [List.getElem?_toArray, List.getElem?_cons_zero] at n0
  have HN := Lib.hid n0
  rw [← allI_full hn]
  clear n0
  go_enter Tryd.func61, Tryd.ntmps61
  go_wp2_with fail
  go_loopw [4, 3] (fun vi v3 wr => ∃ k : Nat, k ≤ c.weights.length ∧ vi = .int .i64 k ∧ Hid (OutI wr (w.heap.size + 1) v3 (allI k)) ∧ Hid (Below (w.heap.size + 1) (w.alloc (.cells #[.slice A1 c.weights.length c1, .slice A2 c.tests.length c2] 36)) wr)) (fun vi _ _ => c.weights.length - (intOf vi).toNat)
  case atStart => exact ⟨0, Nat.zero_le _, rfl, OutI.nil _ _, Below.refl _ _⟩
  case round =>
    obtain ⟨k, hk, rfl, HO, HB⟩ := hrel
    have p0 := (bcell HB.out w.heap.size 0 (by omega)).trans HN.out
    have hs := HB.out.size
    rw [hsz] at hs
    by_cases hlt : k < c.weights.length
    · have HO1 : Hid (OutI (wr.alloc (.cells #[.int .i64 k] 3)) (w.heap.size + 1) u3 (allI k)) := World.ownsRow.alloc HO.out _
      have HQ0 := Lib.hid (newcell wr #[.int .i64 k] 3 0)
      have hl : (allI k).length ≤ 1000000 := by rw [allI_len]; omega
      have hs1 : w.heap.size + 1 ≤ (wr.alloc (.cells #[.int .i64 k] 3)).heap.size := by simp; omega
      have hvl := own_block_lt HO.out
      have HVL := Lib.hid hvl
      clear hvl
      go_wp2_with (at_builtin; refine app_int _ rfl _ _ rfl (w.heap.size + 1) u3 (allI k) rfl HO1.out wr.heap.size k rfl HQ0.out hl hs1 ?_; intro v7 w7 hO7 hg7; have HO7 := Lib.hid hO7; have HG7 := Lib.hid hg7; clear hO7 hg7)
      go_roundw
      case rel => exact ⟨k + 1, by omega, by go_num, by rw [allI_succ]; exact HO7.out, (HB.out.alloc (by omega) _).grown HG7.out hs1 (fun g hg => (HVL.out g hg).1)⟩
      case measure => simp [intOf]; omega
    · obtain rfl : k = c.weights.length := by omega
      go_wp2_with fail
      go_ret
      exact ⟨⟨u3, rfl, own_base HO.out (by omega)⟩, hb1.trans (HB.out.mono (by omega))⟩

/-! ### same -/
theorem sameS_iff {c : MCase} (hc : CaseOk c) {s : Nat} (hs : s < 2 ^ c.weights.length) : alikeB c s (-1) = true ↔ ∀ j, j < (bitsOf s).length → ralikeB c ((bitsOf s).getD 0 0) ((bitsOf s).getD j 0) (-1) = true := by
  have hmem : ∀ j, j < (bitsOf s).length → s.testBit ((bitsOf s).getD j 0) = true := fun j hj => by
    have : (bitsOf s).getD j 0 ∈ bitsOf s := by rw [List.getD_eq_getElem?_getD, List.getElem?_eq_getElem hj]; exact List.getElem_mem hj
    exact (mem_bitsOf.1 this).2
  rw [alikeB_set hc hs]
  constructor
  · exact fun h j hj => h _ _ (hmem 0 (by omega)) (hmem j hj)
  · intro h a b ha hb
    have key : ∀ a, s.testBit a = true → ralikeB c ((bitsOf s).getD 0 0) a (-1) = true := fun a ha => by
      have hm : a ∈ bitsOf s := mem_bitsOf.2 ⟨Nat.lt_of_lt_of_le (bit_lt hs ha) hc.n2, ha⟩
      obtain ⟨j, hj, rfl⟩ := List.mem_iff_getElem.1 hm
      have h1 := h j hj
      rw [show (bitsOf s).getD j 0 = (bitsOf s)[j] by rw [List.getD_eq_getElem?_getD, List.getElem?_eq_getElem hj]; rfl] at h1
      exact h1
    exact ral_trans (ral_symm (key a ha)) (key b hb)
theorem bitsI_get {s j : Nat} (hj : j < (bitsOf s).length) : (bitsI s).getD j 0 = ((bitsOf s).getD j 0 : Nat) := by
  unfold bitsI
  rw [List.getD_eq_getElem?_getD, List.getElem?_map, List.getElem?_eq_getElem hj, List.getD_eq_getElem?_getD, List.getElem?_eq_getElem hj]
  rfl
theorem bits_at_lt {s n j : Nat} (hs : s < 2 ^ n) (hj : j < (bitsOf s).length) : (bitsOf s).getD j 0 < n := by
  have : (bitsOf s).getD j 0 ∈ bitsOf s := by rw [List.getD_eq_getElem?_getD, List.getElem?_eq_getElem hj]; exact List.getElem_mem hj
  exact bit_lt hs (mem_bitsOf.1 this).2
set_option maxRecDepth 100000 in
set_option maxHeartbeats 4000000 in
theorem rsame_any (A1 A2 : Option Addr) (c1 c2 : Nat) (c : MCase) (A : Option Addr) (cap s : Nat) (w : World) (h : CaseA w w.heap.size A1 A2 c) (hc : caseB c = true) (hs : s < 2 ^ c.weights.length) (hI : IntsA w w.heap.size A (bitsI s)) {b : Bool} (hb : alikeB c s (-1) = b) :
    Calls Tryd.prog 96 #[.agg #[.slice A1 c.weights.length c1, .slice A2 c.tests.length c2], .slice A (bitsI s).length cap] w fun e w' => e = .returned (.bool b) ∧ Below w.heap.size w w' := by
  have hb1 : Below w.heap.size w (w.alloc (.cells #[.slice A1 c.weights.length c1, .slice A2 c.tests.length c2] 36)) := (Below.refl _ _).alloc (Nat.le_refl _) _
  have hsz : (w.alloc (.cells #[.slice A1 c.weights.length c1, .slice A2 c.tests.length c2] 36)).heap.size = w.heap.size + 1 := by simp
  have n0 := newcell w #[.slice A1 c.weights.length c1, .slice A2 c.tests.length c2] 36 0
  have n1 := newcell w #[.slice A1 c.weights.length c1, .slice A2 c.tests.length c2] 36 1
  simp only [List.getElem?_toArray, List.getElem?_cons_succ, List.getElem?_cons_zero] at n0 n1
  have HN : Hid (∀ wx, Below (w.heap.size + 1) (w.alloc (.cells #[.slice A1 c.weights.length c1, .slice A2 c.tests.length c2] 36)) wx → wx.cell? ⟨w.heap.size, 0, none⟩ = some (.slice A1 c.weights.length c1) ∧ wx.cell? ⟨w.heap.size, 1, none⟩ = some (.slice A2 c.tests.length c2)) := fun wx hb => ⟨(bcell hb _ _ (by omega)).trans n0, (bcell hb _ _ (by omega)).trans n1⟩
  have HRA : Hid (∀ (wx : World) (a b : Nat) (r : Bool), Below (w.heap.size + 1) (w.alloc (.cells #[.slice A1 c.weights.length c1, .slice A2 c.tests.length c2] 36)) wx → a < c.weights.length → b < c.weights.length → ralikeB c a b (-1) = r → Calls Tryd.prog 105 #[.agg #[.slice A1 c.weights.length c1, .slice A2 c.tests.length c2], .int .i64 a, .int .i64 b, .int .i64 (-1)] wx fun e w' => e = .returned (.bool r) ∧ Below wx.heap.size wx w') := fun wx a b r hb ha hbb hr => ralike_any A1 A2 c1 c2 c a b (-1) wx ((h.keep (hb1.trans (hb.mono (by omega)))).more (by have := hb.size; omega)) hc ha hbb hr
  have HR := Lib.hid hb
  have HOK := Lib.hid (caseOk hc)
  have hlen := bitsI_len s
  have HLB := Lib.hid (bitsI_length s)
  clear hb hc n0 n1
  go_enter Tryd.func96, Tryd.ntmps96
  go_wp2_with fail
  go_loopw [5] (fun vi wr => ∃ k : Nat, k ≤ (bitsI s).length ∧ vi = .int .i64 k ∧ Hid (∀ j, j < k → ralikeB c ((bitsOf s).getD 0 0) ((bitsOf s).getD j 0) (-1) = true) ∧ Hid (Below (w.heap.size + 1) (w.alloc (.cells #[.slice A1 c.weights.length c1, .slice A2 c.tests.length c2] 36)) wr)) (fun vi _ => (bitsI s).length - (intOf vi).toNat)
  case atStart => exact ⟨0, Nat.zero_le _, rfl, (fun j hj => by omega), Below.refl _ _⟩
  case round =>
    obtain ⟨k, hk, rfl, HI, HB⟩ := hrel
    have hsr := HB.out.size
    rw [hsz] at hsr
    by_cases hlt : k < (bitsI s).length
    · have hlb := HLB.out
      have hIr := (hI.keep (hb1.trans (HB.out.mono (by omega))))
      obtain ⟨ib, io, rfl, hib, i0⟩ := hIr.at_ (k := 0) (by omega)
      obtain ⟨ib', io', hA', _, i1⟩ := hIr.at_ hlt
      injection hA' with hA'
      injection hA' with e1 e2
      subst e1; subst e2
      rw [bitsI_get (by omega)] at i0 i1
      have hx0 := bits_at_lt hs (show 0 < (bitsOf s).length by omega)
      have hxk := bits_at_lt hs (show k < (bitsOf s).length by omega)
      obtain ⟨rr, hrr⟩ : ∃ rr, ralikeB c ((bitsOf s).getD 0 0) ((bitsOf s).getD k 0) (-1) = rr := ⟨_, rfl⟩
      have HRR := Lib.hid hrr
      have HRC : Hid (∀ s' : BW wr.heap.size wr, Calls Tryd.prog 105 #[.agg #[.slice A1 c.weights.length c1, .slice A2 c.tests.length c2], .int .i64 ((bitsOf s).getD 0 0 : Nat), .int .i64 ((bitsOf s).getD k 0 : Nat), .int .i64 (-1)] s'.1 fun e w' => e = .returned (.bool rr) ∧ Below s'.1.heap.size s'.1 w') := fun s' => HRA.out s'.1 _ _ rr (HB.out.trans (s'.2.mono (by omega))) hx0 hxk hrr
      obtain ⟨x0, hx0'⟩ : ∃ x0, (bitsOf s).getD 0 0 = x0 := ⟨_, rfl⟩
      obtain ⟨xk, hxk'⟩ : ∃ xk, (bitsOf s).getD k 0 = xk := ⟨_, rfl⟩
      rw [hx0', hxk'] at HRC
      rw [hx0'] at i0
      rw [hxk'] at i1
      obtain ⟨r0, r1⟩ := HN.out wr HB.out
      have q0 := BW.cell (B := wr.heap.size) (show w.heap.size < wr.heap.size by omega) r0
      have q1 := BW.cell (B := wr.heap.size) (show w.heap.size < wr.heap.size by omega) r1
      have q2 := BW.cell (B := wr.heap.size) (show ib < wr.heap.size by omega) i0
      have q3 := BW.cell (B := wr.heap.size) (show ib < wr.heap.size by omega) i1
      rw [Nat.add_zero] at q2
      clear hlb hrr hx0 hxk hx0' hxk' r0 r1 i0 i1 hIr
      go_wp2_with fail
      refine wp_region_below wr.heap.size wr (Below.refl _ _) (by kernel_rfl) (by kernel_rfl) ?_
      repeat (go_big_quiet_step ((go_at_call 105; exact quiet_below (Nat.le_refl _) (HRC.out _))))
      refine wpQuiet_nil ?_
      intro s'
      have HB5 := Lib.hid s'.2
      generalize s'.1 = w5 at *
      have HBy := Lib.hid (HB.out.trans (HB5.out.mono (by omega)))
      clear q0 q1 q2 q3 HRC
      rcases rr with _ | _
      · go_wp2_with fail
        go_ret
        refine ⟨ret_b ?_, hb1.trans (HBy.out.mono (by omega))⟩
        rw [← HR.out]
        rcases hal : alikeB c s (-1)
        · rfl
        · have h9 := (sameS_iff HOK.out hs).1 hal k (by rw [← HLB.out]; exact hlt)
          rw [HRR.out] at h9
          cases h9
      · go_wp2_with fail
        go_roundw
        case rel => exact ⟨k + 1, by omega, by go_num, nat_snoc HI.out HRR.out, HBy.out⟩
        case measure => simp [intOf]; omega
    · obtain rfl : k = (bitsI s).length := by omega
      go_wp2_with fail
      go_ret
      refine ⟨ret_b ?_, hb1.trans (HB.out.mono (by omega))⟩
      rw [← HR.out]
      exact ((sameS_iff HOK.out hs).2 (fun j hj => HI.out j (by rw [HLB.out]; exact hj))).symm
end Go.Proofs.YtonpemikodajdaaDoor
