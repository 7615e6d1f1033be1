/- Traffic; walks: lawful, traffic, Conforms (both). -/
import Derived.Test.YtlbbhlkbhegegaaYa
import Derived.Test.YtlbbhlkbhegegaaPm
namespace Go.Proofs.Ytlbbhlkbhegegaa
open Go.RowKit

/-- a slice of slices of ints -/
def RowsT (w : World) (B : Nat) (A : Option Addr) (tr : List (List Int)) : Prop := tr.length ≤ maxLen ∧ ∃ pv : Nat → Option Addr × Nat, SlA w B 1 A tr.length (fun i _ => .slice (pv i).1 (tr.getD i []).length (pv i).2) ∧ ∀ i, i < tr.length → (tr.getD i []).length ≤ (pv i).2 ∧ IntsA w B (pv i).1 (tr.getD i [])
theorem RowsT.below {w w' : World} {B B' : Nat} {A : Option Addr} {tr : List (List Int)} (h : RowsT w B A tr) (hb : Below B' w w') (hB : B ≤ B') : RowsT w' B' A tr := by
  obtain ⟨hl, pv, h, hp⟩ := h
  exact ⟨hl, pv, h.below hb hB, fun i hi => ⟨(hp i hi).1, (hp i hi).2.below hb hB⟩⟩
theorem RowsT.more {w : World} {B B' : Nat} {A : Option Addr} {tr : List (List Int)} (h : RowsT w B A tr) (hB : B ≤ B') : RowsT w B' A tr := by
  obtain ⟨hl, pv, h, hp⟩ := h
  exact ⟨hl, pv, h.more hB, fun i hi => ⟨(hp i hi).1, (hp i hi).2.more hB⟩⟩
theorem RowsT.at_ {w : World} {B : Nat} {A : Option Addr} {tr : List (List Int)} (h : RowsT w B A tr) {k : Nat} (hk : k < tr.length) : ∃ l b off Ap cp, tr[k]? = some l ∧ A = some ⟨b, off, none⟩ ∧ b < B ∧ w.cell? ⟨b, off + k, none⟩ = some (.slice Ap l.length cp) ∧ l.length ≤ cp ∧ IntsA w B Ap l := by
  obtain ⟨hl, pv, h, hp⟩ := h
  obtain ⟨b, off, hA, hlt, hc⟩ := h (by omega)
  have hg : tr.getD k [] = tr[k] := by rw [List.getD_eq_getElem?_getD, List.getElem?_eq_getElem hk]; rfl
  have h1 := hc k 0 hk (by omega)
  have h2 := hp k hk
  dsimp only at h1
  rw [hg] at h1 h2
  exact ⟨tr[k], b, off, (pv k).1, (pv k).2, List.getElem?_eq_getElem hk, hA, hlt, by rw [← h1]; congr 2; omega, h2.1, h2.2⟩
/-! ### what conforms -/
/-- k numbers from s on -/
def accS (l : List Int) (s k : Nat) : Int := ((l.drop s).take k).sum
theorem accS_zero (l : List Int) (s : Nat) : accS l s 0 = 0 := rfl
theorem accS_succ {l : List Int} {s k : Nat} {b : Int} (h : l[s + k]? = some b) : accS l s (k + 1) = accS l s k + b := by
  unfold accS
  rw [List.take_add_one, List.getElem?_drop, h]
  simp
def confB (b r : Int) (l : List Int) : Bool := (List.range l.length).all fun s => (List.range (l.length - s)).all fun (k : Nat) => decide (accS l s (k + 1) ≤ b + r * (k : Int))
def confS (b r : Int) (l : List Int) : Bool × Int := if flowB b r = false then (false, 45) else if lawfulB l = false then (false, 1) else (confB b r l, 0)
theorem accS_bd {l : List Int} (h : ∀ x ∈ l, 0 ≤ x ∧ x ≤ 1000) (s k : Nat) : 0 ≤ accS l s k ∧ accS l s k ≤ 1000 * l.length := by
  have key : ∀ m : List Int, (∀ x ∈ m, 0 ≤ x ∧ x ≤ 1000) → 0 ≤ m.sum ∧ m.sum ≤ 1000 * m.length := fun m => by
    induction m with
    | nil => intro _; simp
    | cons x m ih =>
      intro hm
      have h1 := ih fun y hy => hm y (by simp [hy])
      have h2 := hm x (by simp)
      rw [List.sum_cons, List.length_cons]
      omega
  have h1 := key ((l.drop s).take k) fun x hx => h x (List.mem_of_mem_drop (List.mem_of_mem_take hx))
  unfold accS
  have h2 : ((l.drop s).take k).length ≤ l.length := by rw [List.length_take, List.length_drop]; omega
  omega
theorem lawfulB_parts {l : List Int} (h : lawfulB l = true) : l.length ≤ 64 ∧ ∀ x ∈ l, 0 ≤ x ∧ x ≤ 1000 := by
  unfold lawfulB at h
  rw [Bool.and_eq_true, List.all_eq_true] at h
  refine ⟨of_decide_eq_true h.1, fun b hb => ?_⟩
  have := h.2 b hb
  rwa [inB_iff] at this
/-! ### lawful -/
def unitB (x : Int) : Bool := inB x 0 1000
theorem lawful1_b (x : Int) (w : World) {r : Bool} (hr : unitB x = r) : Calls Try.prog 110 #[.int .i64 x] w fun e w' => e = .returned (.bool !r) ∧ Below w.heap.size w w' := by
  have hr' : inB x 0 1000 = r := hr
  rcases r with _ | _
  all_goals
    have HR := Lib.hid hr'
    clear hr hr'
    go_enter Try.func110, Try.ntmps110
    go_wp2_with (go_at_call 67; refine (within_b x _ _ _ _ HR.out).mono ?_; rintro e w' ⟨rfl, rfl⟩)
    go_ret
    exact ⟨rfl, Below.refl _ _⟩
set_option maxRecDepth 100000 in
set_option maxHeartbeats 2000000 in
theorem indexUnit_any (O : Option Addr) (cap : Nat) (os : List Int) (w : World) (h : IntsA w w.heap.size O os) :
    Calls Try.prog 109 #[.slice O os.length cap, .func (.func 110) #[] #[]] w fun e w' => ∃ i : Int, e = .returned (.int .i64 i) ∧ ((0 ≤ i ↔ os.all unitB = false)) ∧ Below w.heap.size w w' := by
  have hlen := h.1
  unfold maxLen at hlen
  go_enter Try.func109, Try.ntmps109
  go_wp2_with fail
  go_loopw [8] (fun i wr => ∃ k : Nat, k ≤ os.length ∧ i = .int .i64 k ∧ Hid (∀ j, j < k → unitB (os.getD j 0) = true) ∧ Below w.heap.size w wr) (fun i _ => os.length - (intOf i).toNat)
  case atStart => exact ⟨0, Nat.zero_le _, rfl, fun j hj => by omega, Below.refl _ _⟩
  case round =>
    obtain ⟨k, hk, rfl, HI, hbw⟩ := hrel
    have hsz := hbw.size
    by_cases hlt : k < os.length
    · obtain ⟨b, off, rfl, hb, hc⟩ := (h.below hbw (Nat.le_refl _)).at_ hlt
      have hg : os.getD k 0 = os[k] := by rw [List.getD_eq_getElem?_getD, List.getElem?_eq_getElem hlt]; rfl
      have HG := Lib.hid hg
      clear hg
      rcases hx : unitB (os.getD k 0)
      all_goals
        have HX := Lib.hid hx
        generalize hov : os.getD k 0 = ov at *
        have HC := Lib.hid (lawful1_b ov wr hx)
        have HOV := Lib.hid hov
        clear hx hov
        go_wp2_with (go_at_call 110; refine HC.out.mono ?_; rintro e w2 ⟨rfl, hb2⟩)
      · go_ret
        refine ⟨k, rfl, ⟨fun _ => ?_, fun _ => by omega⟩, hbw.trans (hb2.mono hsz)⟩
        rw [List.all_eq_false]
        exact ⟨os[k], List.getElem_mem _, by rw [← HG.out]; simp [HX.out]⟩
      · go_roundw
        case rel => exact ⟨k + 1, by omega, by go_num, nat_snoc HI.out (by rw [HOV.out]; exact HX.out), hbw.trans (hb2.mono hsz)⟩
        case measure => simp [intOf]; omega
    · obtain rfl : k = os.length := by omega
      go_wp2_with fail
      go_ret
      refine ⟨-1, rfl, ⟨fun h => by omega, fun h => ?_⟩, hbw⟩
      rw [List.all_eq_false] at h
      obtain ⟨x, hx, hn⟩ := h
      obtain ⟨j, hj, rfl⟩ := List.mem_iff_getElem.1 hx
      have := HI.out j hj
      rw [List.getD_eq_getElem?_getD, List.getElem?_eq_getElem hj] at this
      exact absurd this hn
theorem containsUnit_b (O : Option Addr) (cap : Nat) (os : List Int) (w : World) (h : IntsA w w.heap.size O os) {b : Bool} (he : os.all unitB = b) :
    Calls Try.prog 81 #[.slice O os.length cap, .func (.func 110) #[] #[]] w fun e w' => e = .returned (.bool !b) ∧ Below w.heap.size w w' := by
  have HC := Lib.hid (indexUnit_any O cap os w h)
  have HE := Lib.hid he
  clear he
  go_enter Try.func81, Try.ntmps81
  go_wp2_with (go_at_call 109; refine HC.out.mono ?_; rintro e w2 ⟨i, rfl, hi, hb2⟩; have HI := Lib.hid hi; clear hi)
  go_ret
  refine ⟨ret_b ?_, hb2⟩
  rcases b with _ | _
  · exact decide_eq_true (HI.out.2 HE.out)
  · exact decide_eq_false fun h => by have := HI.out.1 h; rw [HE.out] at this; cases this
theorem lawfulB_eq (l : List Int) : lawfulB l = (decide (l.length ≤ 64) && l.all unitB) := rfl
theorem lawful_b (A : Option Addr) (cap : Nat) (l : List Int) (w : World) (h : IntsA w w.heap.size A l) {r : Bool} (hr : lawfulB l = r) : Calls Try.prog 85 #[.slice A l.length cap] w fun e w' => e = .returned (.bool r) ∧ Below w.heap.size w w' := by
  have hlen := h.1
  unfold maxLen at hlen
  rw [lawfulB_eq] at hr
  by_cases h64 : l.length ≤ 64
  · rw [decide_eq_true h64, Bool.true_and] at hr
    have HC := Lib.hid (containsUnit_b A cap l w h hr)
    have g1 : decide ((l.length : Int) ≤ 64) = true := decide_eq_true (by omega)
    clear hr
    go_enter Try.func85, Try.ntmps85
    go_wp2_with (go_at_call 81; refine HC.out.mono ?_; rintro e w2 ⟨rfl, hb2⟩)
    go_ret
    exact ⟨by cases r <;> rfl, hb2⟩
  · rw [decide_eq_false h64, Bool.false_and] at hr
    subst hr
    have g1 : decide ((l.length : Int) ≤ 64) = false := decide_eq_false (by omega)
    go_enter Try.func85, Try.ntmps85
    go_wp2_with fail
    go_ret
    exact ⟨rfl, Below.refl _ _⟩
set_option maxRecDepth 100000 in
set_option maxHeartbeats 2000000 in
theorem traffic_b (A : Option Addr) (cap : Nat) (l : List Int) (w : World) (h : IntsA w w.heap.size A l) {r : Bool} (hr : lawfulB l = r) : Calls Try.prog 87 #[.slice A l.length cap] w fun e w' => e = .returned (.bool r) ∧ Below w.heap.size w w' := by
  have hlen := h.1
  unfold maxLen at hlen
  have HR := Lib.hid hr
  clear hr
  go_enter Try.func87, Try.ntmps87
  go_wp2_with fail
  go_loopw [3] (fun i wr => ∃ k : Nat, k ≤ l.length ∧ i = .int .i64 k ∧ Hid (∀ j, j < k → unitB (l.getD j 0) = true) ∧ wr = w) (fun i _ => l.length - (intOf i).toNat)
  case atStart => exact ⟨0, Nat.zero_le _, rfl, fun j hj => by omega, rfl⟩
  case round =>
    obtain ⟨k, hk, rfl, HI, hw⟩ := hrel
    subst hw
    by_cases hlt : k < l.length
    · obtain ⟨b, off, rfl, hb, hc⟩ := h.at_ hlt
      have hg : l.getD k 0 = l[k] := by rw [List.getD_eq_getElem?_getD, List.getElem?_eq_getElem hlt]; rfl
      have HG := Lib.hid hg
      clear hg
      rcases hx : unitB (l.getD k 0)
      all_goals
        have HX := Lib.hid hx
        generalize hov : l.getD k 0 = ov at *
        have hx' : inB ov 0 1000 = _ := hx
        have HC := Lib.hid fun W => rwithin_b ov 0 1000 _ W hx'
        have HOV := Lib.hid hov
        clear hx hov hx'
        go_wp2_with (go_at_call 64; refine (HC.out _).mono ?_; rintro e w2 ⟨rfl, rfl⟩)
      · go_ret
        refine ⟨ret_b ?_, Below.refl _ _⟩
        rw [← HR.out, lawfulB_eq]
        have : l.all unitB = false := by
          rw [List.all_eq_false]
          exact ⟨l[k], List.getElem_mem _, by rw [← HG.out]; simp [HX.out]⟩
        rw [this, Bool.and_false]
      · go_roundw
        case rel => exact ⟨k + 1, by omega, by go_num, nat_snoc HI.out (by rw [HOV.out]; exact HX.out), by first | rfl | trivial⟩
        case measure => simp [intOf]; omega
    · obtain rfl : k = l.length := by omega
      have HA : Hid (l.all unitB = true) := all_yes fun j x hj hx => by
        have := HI.out j hj
        rw [List.getD_eq_getElem?_getD, hx] at this
        exact this
      go_wp2_with fail
      go_ret
      refine ⟨ret_b ?_, Below.refl _ _⟩
      rw [← HR.out, lawfulB_eq, HA.out, Bool.and_true]
      congr 1
      exact propext ⟨fun h => by omega, fun h => by omega⟩
/-! ### Conforms -/
theorem sizeof_int (W : World) : (sizeOf 3).run Try.prog W = .ok 1 W := by
  obtain ⟨i0, hi, hz0, hz1, hz2⟩ := info_parts info_int
  simp [sizeOf, typeInfo, hi, hz1]
theorem slice_ints (W : World) (b off n cap k : Nat) (h1 : k < n) (h2 : n ≤ cap) : (Instr.slice 28 (.slice (some ⟨b, off, none⟩) n cap) (some (.int .i64 (k : Int))) none none).run Try.prog W = .ok (.slice (some ⟨b, off + k, none⟩) (n - k) (cap - k)) W := by
  have he : Try.prog.elem 28 = 3 := by kernel_rfl
  rw [run_slice_l W 28 _ _ _ (by rw [he]; exact under_ints) .i64 _ (by omega) (by omega), he, sizeof_int]
  have e1 : ((k : Int)).toNat = k := by omega
  have e2 : ¬ cap = k := by omega
  simp [Result.andThen, sliced, Option.map_some, add_none', e1, e2]
theorem IntsA.drop {w : World} {B b off : Nat} {l : List Int} (h : IntsA w B (some ⟨b, off, none⟩) l) {k : Nat} (hk : k < l.length) {i : Nat} (hi : i < l.length - k) : w.cell? ⟨b, off + k + i, none⟩ = some (.int .i64 (l.getD (k + i) 0)) := by
  obtain ⟨b', off', hA, _, hc⟩ := h.2 (by omega)
  injection hA with hA
  injection hA with h1 h2
  subst h1 h2
  rw [Nat.add_assoc]
  exact hc (k + i) (by omega)
/-- what Conforms answers, in memory -/
def RetB (w : World) (p : Bool × Int) (e : Ending) (w' : World) : Prop := e = .returned (.tuple #[.bool p.1, .int .i64 p.2]) ∧ Below w.heap.size w w'
theorem confB_no {b r : Int} {l : List Int} {s k : Nat} (hs : s < l.length) (hk : k < l.length - s) (h : ¬ accS l s (k + 1) ≤ b + r * (k : Int)) : confB b r l = false := by
  unfold confB
  exact range_no hs (range_no hk (decide_eq_false h))
theorem confB_yes {b r : Int} {l : List Int} (h : ∀ s, s < l.length → ∀ k, k < l.length - s → accS l s (k + 1) ≤ b + r * (k : Int)) : confB b r l = true := by
  unfold confB
  exact range_yes fun s hs => range_yes fun k hk => decide_eq_true (h s hs k hk)
set_option maxRecDepth 100000 in
set_option maxHeartbeats 4000000 in
theorem conforms_any (b r : Int) (Pa : Option Addr) (pn pc : Nat) (A : Option Addr) (cap : Nat) (l : List Int) (w : World) (h : IntsA w w.heap.size A l) (hcap : l.length ≤ cap) {p : Bool × Int} (hp : confS b r l = p) :
    Calls Try.prog 43 #[.agg #[.int .i64 b, .int .i64 r, .slice Pa pn pc], .slice A l.length cap] w (RetB w p) := by
  obtain ⟨w1, hw1⟩ : ∃ w1, w.alloc (.cells #[.int .i64 b, .int .i64 r, .slice Pa pn pc] 47) = w1 := ⟨_, rfl⟩
  have HB1 : Hid (Below w.heap.size w w1) := by rw [← hw1]; exact (Below.refl _ _).alloc (Nat.le_refl _) _
  have HX1 : Hid (w1.heap[w.heap.size]? = some (.cells #[.int .i64 b, .int .i64 r, .slice Pa pn pc] 47 (0, 0))) := by rw [← hw1]; exact heap_alloc_new w _
  have HLT := Lib.hid (lt_of_cells HX1.out)
  have HXW : Hid (∀ W, Below w1.heap.size w1 W → (W.cell? ⟨w.heap.size, 0, none⟩ = some (.int .i64 b) ∧ W.cell? ⟨w.heap.size, 1, none⟩ = some (.int .i64 r)) ∧ IntsA W W.heap.size A l ∧ Below w.heap.size w W) := fun W hW => by
    have h1 := (hW.block _ HLT.out).trans HX1.out
    have h2 := HB1.out.trans (hW.mono (Nat.le_of_lt HLT.out))
    exact ⟨⟨cell_of_row W _ 0 _ _ _ h1, cell_of_row W _ 1 _ _ _ h1⟩, (h.below h2 (Nat.le_refl _)).more h2.size, h2⟩
  have k0 := cell_of_row w1 _ 0 _ _ _ HX1.out
  have k1 := cell_of_row w1 _ 1 _ _ _ HX1.out
  have k2 := cell_of_row w1 _ 2 _ _ _ HX1.out
  have HPP := Lib.hid hp
  have hlen := h.1
  unfold maxLen at hlen
  obtain ⟨q1, hq1⟩ : ∃ q, flowB b r = q := ⟨_, rfl⟩
  have HQ1 := Lib.hid hq1
  have HC1 := Lib.hid (poured_b b r (.slice Pa pn pc) q1 w1 hq1)
  have HCAP := Lib.hid hcap
  clear h hp hq1 hcap
  go_enter Try.func43, Try.ntmps43
  go_upto_region 1 with fail
  (try rw [hw1])
  clear hw1
  go_upto_if 12 with (go_at_call 84; refine HC1.out.mono ?_; rintro e w2 ⟨rfl, hb2⟩; have HB2 := Lib.hid hb2; clear hb2)
  clear k0 k1 k2 HC1
  rcases q1
  · have HPE : Hid (p = (false, 45)) := by
      show _ = _
      rw [← HPP.out]
      unfold confS
      rw [if_pos HQ1.out]
    go_wp2_with fail
    go_ret2
    exact ⟨by rw [HPE.out]; rfl, (HXW.out _ HB2.out).2.2⟩
  · obtain ⟨q2, hq2⟩ : ∃ q, lawfulB l = q := ⟨_, rfl⟩
    have HQ2 := Lib.hid hq2
    have HC2 := Lib.hid (lawful_b A cap l w2 (HXW.out _ HB2.out).2.1 hq2)
    clear hq2
    go_upto_if 15 with (go_at_call 85; refine HC2.out.mono ?_; rintro e w3 ⟨rfl, hb3⟩; have HB3 : Hid (Below w1.heap.size w1 w3) := HB2.out.trans (hb3.mono HB2.out.size); clear hb3)
    clear HC2
    rcases q2
    · have HPE : Hid (p = (false, 1)) := by
        show _ = _
        rw [← HPP.out]
        unfold confS
        rw [if_neg (by rw [HQ1.out]; simp), if_pos HQ2.out]
      go_wp2_with fail
      go_ret2
      exact ⟨by rw [HPE.out]; rfl, (HXW.out _ HB3.out).2.2⟩
    · have HLW := Lib.hid (lawfulB_parts HQ2.out)
      have HFL : Hid ((1 ≤ b ∧ b ≤ 100000) ∧ 0 ≤ r ∧ r ≤ 10000) := by
        have := HQ1.out
        unfold flowB at this
        rw [Bool.and_eq_true, inB_iff, inB_iff] at this
        exact this
      have HPC : Hid (p = (confB b r l, 0)) := by
        show _ = _
        rw [← HPP.out]
        unfold confS
        rw [if_neg (by rw [HQ1.out]; simp), if_neg (by rw [HQ2.out]; simp)]
      obtain ⟨⟨hb1, hb2⟩, hr1, hr2⟩ := HFL.out
      have h64 := HLW.out.1
      obtain ⟨⟨c0, c1⟩, hI, _⟩ := HXW.out w3 HB3.out
      go_wp2_with fail
      go_loopw [18] (fun vs wr => ∃ s : Nat, vs = .int .i64 s ∧ s ≤ l.length ∧ wr = w3 ∧ Hid (∀ s', s' < s → ∀ k, k < l.length - s' → accS l s' (k + 1) ≤ b + r * (k : Int))) (fun vs _ => l.length - (intOf vs).toNat)
      case atStart => exact ⟨0, rfl, Nat.zero_le _, rfl, fun s' h => by omega⟩
      case round =>
        obtain ⟨s, rfl, hs, hw, HI⟩ := hrel
        subst hw
        by_cases hlt : s < l.length
        · obtain ⟨ab, ao, hA, _, _⟩ := hI.at_ hlt
          subst hA
          have hsl : ∀ W : World, (Instr.slice 28 (.slice (some ⟨ab, ao, none⟩) l.length cap) (some (.int .i64 (s : Int))) none none).run Try.prog W = .ok (.slice (some ⟨ab, ao + s, none⟩) (l.length - s) (cap - s)) W := fun W => slice_ints W ab ao l.length cap s hlt HCAP.out
          have HID := Lib.hid fun (i : Nat) (hi : i < l.length - s) => hI.drop hlt hi
          obtain ⟨m, hm⟩ : ∃ m, l.length - s = m := ⟨_, rfl⟩
          have HMM := Lib.hid hm
          rw [hm] at hsl
          have hm64 : m ≤ 64 := by omega
          have hm1 : s + m = l.length := by omega
          clear hm
          go_wp2_with fail
          go_loopw [7, 25] (fun vsum vk wx => ∃ k : Nat, vk = .int .i64 k ∧ k ≤ m ∧ vsum = .int .i64 (accS l s k) ∧ wx = wr ∧ Hid (∀ j, j < k → accS l s (j + 1) ≤ b + r * (j : Int))) (fun _ vk _ => m - (intOf vk).toNat)
          case atStart => exact ⟨0, rfl, Nat.zero_le _, rfl, rfl, fun j h => by omega⟩
          case round =>
            obtain ⟨k, rfl, hk, rfl, hw, HJ⟩ := hrel
            subst hw
            by_cases hkl : k < m
            · obtain ⟨x, hx⟩ : ∃ x, l[s + k]? = some x := ⟨_, List.getElem?_eq_getElem (show s + k < l.length by omega)⟩
              have hxb := HLW.out.2 x (List.mem_of_getElem? hx)
              have y0 := HID.out k (by rw [HMM.out]; exact hkl)
              have hgx : l.getD (s + k) 0 = x := by rw [List.getD_eq_getElem?_getD, hx]; rfl
              rw [hgx] at y0
              have hsu := accS_succ hx
              have hab := accS_bd HLW.out.2 s k
              obtain ⟨ac, hac⟩ : ∃ ac, accS l s k = ac := ⟨_, rfl⟩
              obtain ⟨pr, hpr⟩ : ∃ pr, r * (k : Int) = pr := ⟨_, rfl⟩
              have hp0 : 0 ≤ pr := by rw [← hpr]; exact Int.mul_nonneg hr1 (by omega)
              have hp1 : pr ≤ 640000 := by
                rw [← hpr]
                have := Int.mul_le_mul hr2 (show (k : Int) ≤ 64 by omega) (by omega) (by omega)
                omega
              rw [hac] at hsu hab
              have HSU := Lib.hid hsu
              have HPR := Lib.hid hpr
              have e1 : IntKind.i64.wrap pr = pr := IntWalk.i64_in _ (by omega)
              have e2 : IntKind.i64.wrap (ac + x) = ac + x := IntWalk.i64_in _ (by omega)
              have e3 : IntKind.i64.wrap (b + pr) = b + pr := IntWalk.i64_in _ (by omega)
              (try rw [hac])
              clear hx hgx hsu hac
              by_cases hgt : ac + x > b + pr
              · have g1 : decide (ac + x > b + pr) = true := decide_eq_true hgt
                have HPE : Hid (p = (false, 0)) := by
                  show _ = _
                  rw [HPC.out, confB_no hlt (by rw [HMM.out]; exact hkl) (by rw [HSU.out, HPR.out]; omega)]
                go_wp2_with fail
                go_ret2
                exact ⟨by rw [HPE.out]; rfl, (HXW.out _ HB3.out).2.2⟩
              · have g1 : decide (ac + x > b + pr) = false := decide_eq_false hgt
                go_wp2_with fail
                go_roundw
                case rel => exact ⟨k + 1, by go_num, by omega, by rw [HSU.out], by first | rfl | trivial, fun j hj => by
                  rcases Nat.lt_or_ge j k with h1 | h1
                  · exact HJ.out j h1
                  · obtain rfl : j = k := by omega
                    rw [HSU.out, HPR.out]; omega⟩
                case measure => simp [intOf]; omega
            · obtain rfl : k = m := by omega
              go_wp2_with fail
              go_roundw
              case rel => exact ⟨s + 1, by go_num, by omega, by first | rfl | trivial, fun s' hs' k' hk' => by
                rcases Nat.lt_or_ge s' s with h1 | h1
                · exact HI.out s' h1 k' hk'
                · obtain rfl : s' = s := by omega
                  rw [HMM.out] at hk'
                  exact HJ.out k' hk'⟩
              case measure => simp [intOf]; omega
        · obtain rfl : s = l.length := by omega
          have HPE : Hid (p = (true, 0)) := by
            show _ = _
            rw [HPC.out, confB_yes HI.out]
          go_wp2_with fail
          go_ret2
          exact ⟨by rw [HPE.out]; rfl, (HXW.out _ HB3.out).2.2⟩
set_option maxRecDepth 100000 in
set_option maxHeartbeats 4000000 in
theorem rconforms_any (b r : Int) (Pa : Option Addr) (pn pc : Nat) (A : Option Addr) (cap : Nat) (l : List Int) (w : World) (h : IntsA w w.heap.size A l) {p : Bool × Int} (hp : confS b r l = p) :
    Calls Try.prog 44 #[.agg #[.int .i64 b, .int .i64 r, .slice Pa pn pc], .slice A l.length cap] w (RetB w p) := by
  obtain ⟨w1, hw1⟩ : ∃ w1, w.alloc (.cells #[.int .i64 b, .int .i64 r, .slice Pa pn pc] 47) = w1 := ⟨_, rfl⟩
  have HB1 : Hid (Below w.heap.size w w1) := by rw [← hw1]; exact (Below.refl _ _).alloc (Nat.le_refl _) _
  have HX1 : Hid (w1.heap[w.heap.size]? = some (.cells #[.int .i64 b, .int .i64 r, .slice Pa pn pc] 47 (0, 0))) := by rw [← hw1]; exact heap_alloc_new w _
  have HLT := Lib.hid (lt_of_cells HX1.out)
  have HXW : Hid (∀ W, Below w1.heap.size w1 W → (W.cell? ⟨w.heap.size, 0, none⟩ = some (.int .i64 b) ∧ W.cell? ⟨w.heap.size, 1, none⟩ = some (.int .i64 r)) ∧ IntsA W W.heap.size A l ∧ Below w.heap.size w W) := fun W hW => by
    have h1 := (hW.block _ HLT.out).trans HX1.out
    have h2 := HB1.out.trans (hW.mono (Nat.le_of_lt HLT.out))
    exact ⟨⟨cell_of_row W _ 0 _ _ _ h1, cell_of_row W _ 1 _ _ _ h1⟩, (h.below h2 (Nat.le_refl _)).more h2.size, h2⟩
  have k0 := cell_of_row w1 _ 0 _ _ _ HX1.out
  have k1 := cell_of_row w1 _ 1 _ _ _ HX1.out
  have k2 := cell_of_row w1 _ 2 _ _ _ HX1.out
  have HPP := Lib.hid hp
  have hlen := h.1
  unfold maxLen at hlen
  obtain ⟨q1, hq1⟩ : ∃ q, flowB b r = q := ⟨_, rfl⟩
  have HQ1 := Lib.hid hq1
  have HC1 := Lib.hid (rflow_b b r (.slice Pa pn pc) q1 w1 hq1)
  clear h hp hq1
  go_enter Try.func44, Try.ntmps44
  go_upto_region 1 with fail
  (try rw [hw1])
  clear hw1
  go_upto_if 11 with (go_at_call 86; refine HC1.out.mono ?_; rintro e w2 ⟨rfl, hb2⟩; have HB2 := Lib.hid hb2; clear hb2)
  clear k0 k1 k2 HC1
  rcases q1
  · have HPE : Hid (p = (false, 45)) := by
      show _ = _
      rw [← HPP.out]
      unfold confS
      rw [if_pos HQ1.out]
    go_wp2_with fail
    go_ret2
    exact ⟨by rw [HPE.out]; rfl, (HXW.out _ HB2.out).2.2⟩
  · obtain ⟨q2, hq2⟩ : ∃ q, lawfulB l = q := ⟨_, rfl⟩
    have HQ2 := Lib.hid hq2
    have HC2 := Lib.hid (traffic_b A cap l w2 (HXW.out _ HB2.out).2.1 hq2)
    clear hq2
    go_upto_if 14 with (go_at_call 87; refine HC2.out.mono ?_; rintro e w3 ⟨rfl, hb3⟩; have HB3 : Hid (Below w1.heap.size w1 w3) := HB2.out.trans (hb3.mono HB2.out.size); clear hb3)
    clear HC2
    rcases q2
    · have HPE : Hid (p = (false, 1)) := by
        show _ = _
        rw [← HPP.out]
        unfold confS
        rw [if_neg (by rw [HQ1.out]; simp), if_pos HQ2.out]
      go_wp2_with fail
      go_ret2
      exact ⟨by rw [HPE.out]; rfl, (HXW.out _ HB3.out).2.2⟩
    · have HLW := Lib.hid (lawfulB_parts HQ2.out)
      have HFL : Hid ((1 ≤ b ∧ b ≤ 100000) ∧ 0 ≤ r ∧ r ≤ 10000) := by
        have := HQ1.out
        unfold flowB at this
        rw [Bool.and_eq_true, inB_iff, inB_iff] at this
        exact this
      have HPC : Hid (p = (confB b r l, 0)) := by
        show _ = _
        rw [← HPP.out]
        unfold confS
        rw [if_neg (by rw [HQ1.out]; simp), if_neg (by rw [HQ2.out]; simp)]
      obtain ⟨⟨hb1, hb2⟩, hr1, hr2⟩ := HFL.out
      have h64 := HLW.out.1
      obtain ⟨⟨c0, c1⟩, hI, _⟩ := HXW.out w3 HB3.out
      go_wp2_with fail
      go_loopw [6] (fun vs wr => ∃ s : Nat, vs = .int .i64 s ∧ s ≤ l.length ∧ wr = w3 ∧ Hid (∀ s', s' < s → ∀ k, k < l.length - s' → accS l s' (k + 1) ≤ b + r * (k : Int))) (fun vs _ => l.length - (intOf vs).toNat)
      case atStart => exact ⟨0, rfl, Nat.zero_le _, rfl, fun s' h => by omega⟩
      case round =>
        obtain ⟨s, rfl, hs, hw, HI⟩ := hrel
        subst hw
        by_cases hlt : s < l.length
        · go_wp2_with fail
          go_loopw [7, 8] (fun vsum vk wx => ∃ q k : Nat, vk = .int .i64 q ∧ q = s + k ∧ q ≤ l.length ∧ vsum = .int .i64 (accS l s k) ∧ wx = wr ∧ Hid (∀ j, j < k → accS l s (j + 1) ≤ b + r * (j : Int))) (fun _ vk _ => l.length - (intOf vk).toNat)
          case atStart => exact ⟨s, 0, rfl, rfl, hs, rfl, rfl, fun j h => by omega⟩
          case round =>
            obtain ⟨q, k, rfl, hqk, hq, rfl, hw, HJ⟩ := hrel
            subst hw
            have HQK := Lib.hid hqk
            by_cases hkl : q < l.length
            · obtain ⟨x, hx⟩ : ∃ x, l[q]? = some x := ⟨_, List.getElem?_eq_getElem hkl⟩
              have hxb := HLW.out.2 x (List.mem_of_getElem? hx)
              obtain ⟨ab, ao, hA, _, y0⟩ := hI.at_ hkl
              subst hA
              have hgx : l.getD q 0 = x := by rw [List.getD_eq_getElem?_getD, hx]; rfl
              rw [hgx] at y0
              have hsu := accS_succ (l := l) (s := s) (k := k) (b := x) (by rw [← hqk]; exact hx)
              have hab := accS_bd HLW.out.2 s k
              obtain ⟨ac, hac⟩ : ∃ ac, accS l s k = ac := ⟨_, rfl⟩
              have hk64 : k ≤ 64 := by omega
              obtain ⟨pr, hpr⟩ : ∃ pr, r * ((q : Int) - (s : Int)) = pr := ⟨_, rfl⟩
              have hqs : ((q : Int) - (s : Int)) = (k : Int) := by omega
              have HPR : Hid (r * (k : Int) = pr) := by show _ = _; rw [← hqs]; exact hpr
              have hp0 : 0 ≤ pr := by rw [← HPR.out]; exact Int.mul_nonneg hr1 (by omega)
              have hp1 : pr ≤ 640000 := by
                rw [← HPR.out]
                have := Int.mul_le_mul hr2 (show (k : Int) ≤ 64 by omega) (by omega) (by omega)
                omega
              rw [hac] at hsu hab
              have HSU := Lib.hid hsu
              have e1 : IntKind.i64.wrap pr = pr := IntWalk.i64_in _ (by omega)
              have e2 : IntKind.i64.wrap (ac + x) = ac + x := IntWalk.i64_in _ (by omega)
              have e3 : IntKind.i64.wrap (b + pr) = b + pr := IntWalk.i64_in _ (by omega)
              (try rw [hac])
              clear hx hgx hsu hac hqs hqk
              by_cases hgt : ac + x > b + pr
              · have g1 : decide (ac + x > b + pr) = true := decide_eq_true hgt
                have HPE : Hid (p = (false, 0)) := by
                  show _ = _
                  rw [HPC.out, confB_no hlt (k := k) (by have := HQK.out; omega) (by rw [HSU.out, HPR.out]; omega)]
                go_wp2_with fail
                go_ret2
                exact ⟨by rw [HPE.out]; rfl, (HXW.out _ HB3.out).2.2⟩
              · have g1 : decide (ac + x > b + pr) = false := decide_eq_false hgt
                go_wp2_with fail
                go_roundw
                case rel => exact ⟨q + 1, k + 1, by go_num, by have := HQK.out; omega, by omega, by rw [HSU.out], by first | rfl | trivial, fun j hj => by
                  rcases Nat.lt_or_ge j k with h1 | h1
                  · exact HJ.out j h1
                  · obtain rfl : j = k := by omega
                    rw [HSU.out, HPR.out]; omega⟩
                case measure => simp [intOf]; omega
            · obtain rfl : q = l.length := by omega
              clear hqk
              go_wp2_with fail
              go_roundw
              case rel => exact ⟨s + 1, by go_num, by omega, by first | rfl | trivial, fun s' hs' k' hk' => by
                rcases Nat.lt_or_ge s' s with h1 | h1
                · exact HI.out s' h1 k' hk'
                · obtain rfl : s' = s := by omega
                  exact HJ.out k' (by have := HQK.out; omega)⟩
              case measure => simp [intOf]; omega
        · obtain rfl : s = l.length := by omega
          have HPE : Hid (p = (true, 0)) := by
            show _ = _
            rw [HPC.out, confB_yes HI.out]
          go_wp2_with fail
          go_ret2
          exact ⟨by rw [HPE.out]; rfl, (HXW.out _ HB3.out).2.2⟩
end Go.Proofs.Ytlbbhlkbhegegaa
