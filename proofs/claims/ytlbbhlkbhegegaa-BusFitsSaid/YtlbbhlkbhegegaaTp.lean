/- Walks: the law's slotted, sameSlots, earlier. Printed by gen_tp4.py. -/
import Derived.Test.YtlbbhlkbhegegaaTk
namespace Go.Proofs.Ytlbbhlkbhegegaa
open Go.RowKit

/-- more than a statement looks at -/
def bigB (C : Int) (n : Nat) : Bool := (decide (7 < n) && decide (n ≤ 60)) || (decide (8 < C) && decide (C ≤ 64))
theorem big_small {S C : Int} {m : List MGate} (hb : bigB C m.length = false) (h : slottedB S C m = true) : m.length ≤ 7 := by
  have h1 := (slotted_parts h).2.2.1
  unfold bigB at hb
  rw [Bool.or_eq_false_iff, Bool.and_eq_false_iff, decide_eq_false_iff_not, decide_eq_false_iff_not] at hb
  omega
set_option maxRecDepth 100000 in
set_option maxHeartbeats 2000000 in
theorem slottedL_any (S C : Int) (A : Option Addr) (cap n : Nat) (w : World) (hn : n ≤ maxLen) {r : Bool} (hr : bigB C n = r) :
    Calls Try.prog 49 #[.agg #[.int .i64 S, .int .i64 C, .slice A n cap]] w fun e w' => e = .returned (.bool r) ∧ Below w.heap.size w w' := by
  have HB : Hid (Below w.heap.size w (w.alloc (.cells #[.int .i64 S, .int .i64 C, .slice A n cap] 54))) := (Below.refl _ _).alloc (Nat.le_refl _) _
  have hx0 := heap_alloc_new w (.cells #[.int .i64 S, .int .i64 C, .slice A n cap] 54)
  obtain ⟨w1, hw1⟩ : ∃ w1, w.alloc (.cells #[.int .i64 S, .int .i64 C, .slice A n cap] 54) = w1 := ⟨_, rfl⟩
  rw [hw1] at hx0 HB
  have a1 := cell_of_row w1 _ 1 _ _ _ hx0
  have a2 := cell_of_row w1 _ 2 _ _ _ hx0
  simp only [List.getElem?_toArray, List.getElem?_cons_succ, List.getElem?_cons_zero] at a1 a2
  unfold maxLen at hn
  have HR := Lib.hid hr
  unfold bigB at HR
  clear hx0 hr
  by_cases h1 : 7 < n
  · have g1 : decide ((7 : Int) < (n : Int)) = true := decide_eq_true (by omega)
    by_cases h2 : n ≤ 60
    · have g2 : decide ((n : Int) ≤ 60) = true := decide_eq_true (by omega)
      have HF : Hid (r = true) := by show _ = _; rw [← HR.out, decide_eq_true h1, decide_eq_true h2]; rfl
      clear h1 h2
      go_enter Try.func49, Try.ntmps49
      go_upto_region 1 with fail
      (try rw [hw1])
      clear hw1
      go_wp2_with fail
      go_ret
      exact ⟨ret_b HF.out.symm, HB.out⟩
    · have g2 : decide ((n : Int) ≤ 60) = false := decide_eq_false (by omega)
      by_cases h3 : 8 < C
      · have g3 : decide (8 < C) = true := decide_eq_true h3
        by_cases h4 : C ≤ 64
        · have g4 : decide (C ≤ 64) = true := decide_eq_true h4
          have HF : Hid (r = true) := by show _ = _; rw [← HR.out, decide_eq_true h3, decide_eq_true h4]; simp
          clear h1 h2 h3 h4
          go_enter Try.func49, Try.ntmps49
          go_upto_region 1 with fail
          (try rw [hw1])
          clear hw1
          go_wp2_with fail
          go_ret
          exact ⟨ret_b HF.out.symm, HB.out⟩
        · have g4 : decide (C ≤ 64) = false := decide_eq_false h4
          have HF : Hid (r = false) := by show _ = _; rw [← HR.out, decide_eq_false h2, decide_eq_false h4]; simp
          clear h1 h2 h3 h4
          go_enter Try.func49, Try.ntmps49
          go_upto_region 1 with fail
          (try rw [hw1])
          clear hw1
          go_wp2_with fail
          go_ret
          exact ⟨ret_b HF.out.symm, HB.out⟩
      · have g3 : decide (8 < C) = false := decide_eq_false h3
        have HF : Hid (r = false) := by show _ = _; rw [← HR.out, decide_eq_false h2, decide_eq_false h3]; simp
        clear h1 h2 h3
        go_enter Try.func49, Try.ntmps49
        go_upto_region 1 with fail
        (try rw [hw1])
        clear hw1
        go_wp2_with fail
        go_ret
        exact ⟨ret_b HF.out.symm, HB.out⟩
  · have g1 : decide ((7 : Int) < (n : Int)) = false := decide_eq_false (by omega)
    by_cases h3 : 8 < C
    · have g3 : decide (8 < C) = true := decide_eq_true h3
      by_cases h4 : C ≤ 64
      · have g4 : decide (C ≤ 64) = true := decide_eq_true h4
        have HF : Hid (r = true) := by show _ = _; rw [← HR.out, decide_eq_true h3, decide_eq_true h4]; simp
        clear h1 h3 h4
        go_enter Try.func49, Try.ntmps49
        go_upto_region 1 with fail
        (try rw [hw1])
        clear hw1
        go_wp2_with fail
        go_ret
        exact ⟨ret_b HF.out.symm, HB.out⟩
      · have g4 : decide (C ≤ 64) = false := decide_eq_false h4
        have HF : Hid (r = false) := by show _ = _; rw [← HR.out, decide_eq_false h1, decide_eq_false h4]; simp
        clear h1 h3 h4
        go_enter Try.func49, Try.ntmps49
        go_upto_region 1 with fail
        (try rw [hw1])
        clear hw1
        go_wp2_with fail
        go_ret
        exact ⟨ret_b HF.out.symm, HB.out⟩
    · have g3 : decide (8 < C) = false := decide_eq_false h3
      have HF : Hid (r = false) := by show _ = _; rw [← HR.out, decide_eq_false h1, decide_eq_false h3]; simp
      clear h1 h3
      go_enter Try.func49, Try.ntmps49
      go_upto_region 1 with fail
      (try rw [hw1])
      clear hw1
      go_wp2_with fail
      go_ret
      exact ⟨ret_b HF.out.symm, HB.out⟩
set_option maxRecDepth 100000 in
set_option maxHeartbeats 2000000 in
theorem sameSlots_any (A B : Option Addr) (ca cb : Nat) (l : List MGate) (w : World) (hA : GatesA w w.heap.size A l) (hB : GatesA w w.heap.size B l) (hl : l.length ≤ 1000) :
    Calls Try.prog 52 #[.slice A l.length ca, .slice B l.length cb] w fun e w' => e = .returned (.bool true) ∧ Below w.heap.size w w' := by
  have HA := Lib.hid hA
  have HB := Lib.hid hB
  have HBR : Hid (Below w.heap.size w w) := Below.refl _ _
  clear hA hB
  go_enter Try.func52, Try.ntmps52
  go_wp2_with fail
  go_loopw [4, 5] (fun v4 vi wr => v4 = .bool false ∧ ∃ k : Nat, k ≤ l.length ∧ vi = .int .i64 k ∧ Hid (Below w.heap.size w wr)) (fun _ vi _ => l.length - (intOf vi).toNat)
  case atStart => exact ⟨rfl, 0, Nat.zero_le _, rfl, HBR.out⟩
  case round =>
    clear HBR
    obtain ⟨rfl, k, hk, rfl, HBW⟩ := hrel
    rename World => wr
    by_cases hlk : k < l.length
    · obtain ⟨x, b, off, hx, rfl, hb, c0, c1⟩ := (HA.out.below HBW.out (Nat.le_refl _)).at_ hlk
      obtain ⟨y, b2, off2, hy, rfl, hb2, d0, d1⟩ := (HB.out.below HBW.out (Nat.le_refl _)).at_ hlk
      rw [hx] at hy
      injection hy with hy
      subst hy
      have hxx : (x.rate == x.rate) = true := by simp
      have hyy : (x.delay == x.delay) = true := by simp
      clear hx hb hb2
      go_wp2_with fail
      go_quiet (fail)
      have HB5 : Hid (Below w.heap.size w (wr.drewN nq)) := bdrew' HBW.out nq
      clear c0 c1 d0 d1
      generalize wr.drewN nq = w5 at *
      go_wp2_with fail
      go_roundw
      case rel => exact ⟨rfl, k + 1, by omega, by go_num, HB5.out⟩
      case measure => simp [intOf]; omega
    · obtain rfl : k = l.length := by omega
      go_wp2_with fail
      go_ret
      exact ⟨rfl, HBW.out⟩
/-- whether one schedule comes before another one -/
def earlyG : List MGate → List MGate → Bool
  | x :: xs, y :: ys => if x.rate = y.rate then (if x.delay = y.delay then earlyG xs ys else decide (x.delay < y.delay)) else decide (x.rate < y.rate)
  | _, _ => false
theorem early_drop {a b : List MGate} {k : Nat} {x y : MGate} (hx : a[k]? = some x) (hy : b[k]? = some y) : earlyG (a.drop k) (b.drop k) = if x.rate = y.rate then (if x.delay = y.delay then earlyG (a.drop (k + 1)) (b.drop (k + 1)) else decide (x.delay < y.delay)) else decide (x.rate < y.rate) := by
  rw [drop_cons hx, drop_cons hy]
  rfl
theorem early_end {a b : List MGate} {k : Nat} (h : a.length ≤ k ∨ b.length ≤ k) : earlyG (a.drop k) (b.drop k) = false := by
  rcases h with h | h
  · rw [List.drop_of_length_le h]; rfl
  · rw [List.drop_of_length_le (l := b) h]
    cases a.drop k <;> rfl
theorem early_iff : ∀ {xs ys : List MPlace}, earlyG (xs.map pg) (ys.map pg) = true → earlyP xs ys
  | [], _, h => by cases h
  | _ :: _, [], h => by cases h
  | x :: xs, y :: ys, h => by
    rw [List.map_cons, List.map_cons] at h
    unfold earlyG at h
    unfold earlyP ltP
    split at h
    · rename_i h1
      have h1 : x.slot = y.slot := by unfold pg at h1; dsimp only at h1; exact_mod_cast h1
      split at h
      · rename_i h2
        have h2 : x.base = y.base := by unfold pg at h2; dsimp only at h2; exact_mod_cast h2
        refine .inr ⟨?_, early_iff h⟩
        cases x; cases y; simp_all
      · have h3 := of_decide_eq_true h
        exact .inl (.inr ⟨h1, by unfold pg at h3; dsimp only at h3; exact_mod_cast h3⟩)
    · have h3 := of_decide_eq_true h
      exact .inl (.inl (by unfold pg at h3; dsimp only at h3; exact_mod_cast h3))
set_option maxRecDepth 100000 in
set_option maxHeartbeats 4000000 in
theorem earlier_any (A B : Option Addr) (ca cb : Nat) (a b : List MGate) (w : World) (hA : GatesA w w.heap.size A a) (hB : GatesA w w.heap.size B b) (hl : a.length ≤ 1000) {r : Bool} (hr : earlyG a b = r) :
    Calls Try.prog 53 #[.slice A a.length ca, .slice B b.length cb] w fun e w' => e = .returned (.bool r) ∧ Below w.heap.size w w' := by
  have HA := Lib.hid hA
  have HB := Lib.hid hB
  have HBR : Hid (Below w.heap.size w w) := Below.refl _ _
  have HR0 : Hid (earlyG (a.drop 0) (b.drop 0) = r) := hr
  clear hA hB hr
  go_enter Try.func53, Try.ntmps53
  go_wp2_with fail
  go_loopw [4, 5] (fun v4 vi wr => v4 = .bool false ∧ ∃ k : Nat, k ≤ a.length ∧ vi = .int .i64 k ∧ Hid (earlyG (a.drop k) (b.drop k) = r) ∧ Hid (Below w.heap.size w wr)) (fun _ vi _ => a.length - (intOf vi).toNat)
  case atStart => exact ⟨rfl, 0, Nat.zero_le _, rfl, HR0, HBR.out⟩
  case round =>
    clear HBR HR0
    obtain ⟨rfl, k, hk, rfl, HR, HBW⟩ := hrel
    rename World => wr
    by_cases hlk : k < a.length
    · have g1 : decide ((k : Int) < (a.length : Int)) = true := decide_eq_true (by omega)
      by_cases hlb : k < b.length
      · have g2 : decide ((k : Int) < (b.length : Int)) = true := decide_eq_true (by omega)
        obtain ⟨x, b1, off, hx, rfl, hb, c0, c1⟩ := (HA.out.below HBW.out (Nat.le_refl _)).at_ hlk
        obtain ⟨y, b2, off2, hy, rfl, hb2, d0, d1⟩ := (HB.out.below HBW.out (Nat.le_refl _)).at_ hlb
        have HST := Lib.hid ((early_drop hx hy).symm.trans HR.out)
        have HLK := Lib.hid hlk
        clear hx hy hb hb2
        by_cases e1 : x.rate = y.rate
        · have n1 : (x.rate != y.rate) = false := by simpa using e1
          by_cases e2 : x.delay = y.delay
          · have n2 : (x.delay != y.delay) = false := by simpa using e2
            have HS2 : Hid (earlyG (a.drop (k + 1)) (b.drop (k + 1)) = r) := by have := HST.out; rw [if_pos e1, if_pos e2] at this; exact this
            clear e1 e2 HST
            go_wp2_with fail
            go_quiet (fail)
            go_wp2_with fail
            go_quiet (fail)
            go_wp2_with fail
            go_roundw
            case rel => exact ⟨rfl, k + 1, by have := HLK.out; omega, by go_num, HS2, bdrew' HBW.out _⟩
            case measure => simp [intOf]; have := HLK.out; omega
          · have n2 : (x.delay != y.delay) = true := by simpa using e2
            have HS2 : Hid (decide (x.delay < y.delay) = r) := by have := HST.out; rw [if_pos e1, if_neg e2] at this; exact this
            clear e1 e2 HST
            go_wp2_with fail
            go_quiet (fail)
            go_wp2_with fail
            go_quiet (fail)
            go_wp2_with fail
            go_quiet (fail)
            go_wp2_with fail
            go_ret
            exact ⟨ret_b HS2.out, bdrew' (bdrew' (bdrew' HBW.out _) _) _⟩
        · have n1 : (x.rate != y.rate) = true := by simpa using e1
          have HS2 : Hid (decide (x.rate < y.rate) = r) := by have := HST.out; rw [if_neg e1] at this; exact this
          clear e1 HST
          go_wp2_with fail
          go_quiet (fail)
          go_wp2_with fail
          go_quiet (fail)
          go_wp2_with fail
          go_ret
          exact ⟨ret_b HS2.out, bdrew' (bdrew' HBW.out _) _⟩
      · have g2 : decide ((k : Int) < (b.length : Int)) = false := decide_eq_false (by omega)
        have HF := Lib.hid ((early_end (.inr (Nat.le_of_not_lt hlb))).symm.trans HR.out)
        go_wp2_with fail
        go_ret
        exact ⟨ret_b HF.out, HBW.out⟩
    · have g1 : decide ((k : Int) < (a.length : Int)) = false := decide_eq_false (by omega)
      have HF := Lib.hid ((early_end (.inl (Nat.le_of_not_lt hlk))).symm.trans HR.out)
      go_wp2_with fail
      go_ret
      exact ⟨ret_b HF.out, HBW.out⟩
/-- what CheckSlots accepts is a schedule -/
theorem comp_of_slots {S C : Int} {m l : List MGate} (h : slottedB S C m = true) (hs : slotsS S C m l = 0) : ∃ xs, l = xs.map pg ∧ Comp S.toNat [] (m.map mm) xs := by
  have hpt := slotted_parts h
  have hll : l.length = m.length := Classical.byContradiction fun hn => by rw [slots_1 h hn] at hs; omega
  have hrg : ∀ i, i < l.length → rangeOk S m l i = true := fun i hi => by
    rcases hr : rangeOk S m l i
    · rw [slots_1' h hll hi hr] at hs; omega
    · rfl
  have hpr : ∀ i k, i < l.length → k < i → pairOk m l i k = true := fun i k hi hk => by
    rcases hr : pairOk m l i k
    · rw [slots_44 h hll hrg hi hk hr] at hs; omega
    · rfl
  have hx : ∀ i, (hi : i < l.length) → (0 ≤ (l[i]).rate ∧ (l[i]).rate ≤ S - 1) ∧ 0 ≤ (l[i]).delay ∧ (l[i]).delay ≤ (m[i]'(by omega)).delay - 1 := fun i hi => by
    have h1 := hrg i hi
    unfold rangeOk at h1
    rw [Bool.and_eq_true, inB_iff, inB_iff, pairAt_of (List.getElem?_eq_getElem hi), pairAt_of (List.getElem?_eq_getElem (show i < m.length by omega))] at h1
    exact h1
  refine ⟨l.map fun g => ⟨g.rate.toNat, g.delay.toNat⟩, ?_, ?_⟩
  · rw [List.map_map]
    apply List.ext_getElem?
    intro i
    rw [List.getElem?_map]
    rcases hi : l[i]? with _ | g
    · rfl
    · have hil := lt_of_get hi
      have := hx i hil
      rw [List.getElem?_eq_getElem hil] at hi
      injection hi with hi
      rw [hi] at this
      show some g = some (pg ⟨g.rate.toNat, g.delay.toNat⟩)
      unfold pg
      dsimp only
      rw [Int.toNat_of_nonneg this.1.1, Int.toNat_of_nonneg this.2.1]
  · rw [comp_fits]
    refine ⟨by simp [hll], fun q hq => ?_, ?_⟩
    · unfold pairs at hq
      obtain ⟨i, hi⟩ := List.mem_iff_getElem?.1 hq
      rw [List.getElem?_zip_eq_some, List.getElem?_map, List.getElem?_map] at hi
      obtain ⟨h1, h2⟩ := hi
      have hil : i < l.length := by
        rcases Nat.lt_or_ge i l.length with h3 | h3
        · exact h3
        · rw [List.getElem?_eq_none (l := l) h3] at h2; cases h2
      rw [List.getElem?_eq_getElem hil] at h2
      rw [List.getElem?_eq_getElem (show i < m.length by omega)] at h1
      injection h1 with h1
      injection h2 with h2
      have := hx i hil
      refine ⟨?_, fun p hp => by cases hp⟩
      rw [← h1, ← h2]
      unfold inP mm
      dsimp only
      omega
    · rw [List.pairwise_iff_getElem]
      intro i j hi hj hij
      have hil : j < l.length := by
        unfold pairs at hj
        rw [List.length_zip, List.length_map, List.length_map] at hj
        omega
      have hat : ∀ i (hi : i < l.length), (pairs (m.map mm) (l.map fun g => (⟨g.rate.toNat, g.delay.toNat⟩ : MPlace)))[i]? = some (mm (m[i]'(by omega)), ⟨(l[i]).rate.toNat, (l[i]).delay.toNat⟩) := fun i hi => by
        unfold pairs
        rw [List.getElem?_zip_eq_some, List.getElem?_map, List.getElem?_map, List.getElem?_eq_getElem (show i < m.length by omega), List.getElem?_eq_getElem hi]
        exact ⟨rfl, rfl⟩
      have e1 := List.getElem?_eq_getElem hi
      have e2 := List.getElem?_eq_getElem hj
      rw [hat i (by omega)] at e1
      rw [hat j hil] at e2
      injection e1 with e1
      injection e2 with e2
      rw [← e1, ← e2]
      have h1 := hpr j i hil hij
      have hpi := hpt.2.2.2 i m[i] (List.getElem?_eq_getElem (by omega))
      have hpj := hpt.2.2.2 j m[j] (List.getElem?_eq_getElem (by omega))
      rw [pairOk_of (pairAt_of (List.getElem?_eq_getElem (show i < m.length by omega))) (pairAt_of (List.getElem?_eq_getElem (show j < m.length by omega))) (pairAt_of (List.getElem?_eq_getElem (show i < l.length by omega))) (pairAt_of (List.getElem?_eq_getElem hil)), Bool.not_eq_true'] at h1
      have hxi := hx i (by omega)
      have hxj := hx j hil
      have ei : l[i] = pg ⟨(l[i]).rate.toNat, (l[i]).delay.toNat⟩ := by unfold pg; dsimp only; rw [Int.toNat_of_nonneg hxi.1.1, Int.toNat_of_nonneg hxi.2.1]
      have ej : l[j] = pg ⟨(l[j]).rate.toNat, (l[j]).delay.toNat⟩ := by unfold pg; dsimp only; rw [Int.toNat_of_nonneg hxj.1.1, Int.toNat_of_nonneg hxj.2.1]
      rw [ei, ej, clash_apart (by omega) (by omega)] at h1
      exact h1
/-- a schedule is accepted by CheckSlots -/
theorem slots_of_comp {S C : Int} {m : List MGate} {xs : List MPlace} (h : slottedB S C m = true) (hc : Comp S.toNat [] (m.map mm) xs) : slotsS S C m (xs.map pg) = 0 := by
  have hpt := slotted_parts h
  obtain ⟨hl, hf⟩ := comp_fits.1 hc
  rw [List.length_map] at hl
  have hm0 : ∀ a ∈ m, 0 ≤ a.delay := fun a ha => by
    obtain ⟨i, hi⟩ := List.mem_iff_getElem?.1 ha
    have := hpt.2.2.2 i a hi
    omega
  have hat : ∀ i (hi : i < xs.length), (pairs (m.map mm) xs)[i]? = some (mm (m[i]'(by omega)), xs[i]) := fun i hi => by
    unfold pairs
    rw [List.getElem?_zip_eq_some, List.getElem?_map, List.getElem?_eq_getElem (show i < m.length by omega), List.getElem?_eq_getElem hi]
    exact ⟨rfl, rfl⟩
  have hgx : ∀ i (hi : i < xs.length), pairAt (xs.map pg) i = pg xs[i] := fun i hi => pairAt_of (by rw [List.getElem?_map, List.getElem?_eq_getElem hi]; rfl)
  have hgm : ∀ i (hi : i < xs.length), pairAt m i = m[i]'(by omega) := fun i hi => pairAt_of (List.getElem?_eq_getElem (by omega))
  refine slots_0 h (by rw [List.length_map, hl]) (fun i hi => ?_) (fun i hi => ?_)
  · rw [List.length_map] at hi
    have h1 := (hf.1 _ (List.mem_of_getElem? (hat i hi))).1
    unfold rangeOk
    rw [Bool.and_eq_true, inB_iff, inB_iff, hgx i hi, hgm i hi]
    unfold inP mm at h1
    dsimp only at h1
    unfold pg
    dsimp only
    have := hm0 _ (List.getElem_mem (show i < m.length by omega))
    omega
  · rw [List.length_map] at hi
    unfold rowOk
    rw [List.all_eq_true]
    intro k hkr
    have hk := List.mem_range.1 hkr
    rw [pairOk_of (hgm k (by omega)) (hgm i hi) (hgx k (by omega)) (hgx i hi), Bool.not_eq_true', clash_apart (hm0 _ (List.getElem_mem _)) (hm0 _ (List.getElem_mem _))]
    have h2 := (List.pairwise_iff_getElem.1 hf.2) k i (by have := lt_of_get (hat k (by omega)); exact this) (lt_of_get (hat i hi)) hk
    have e1 := List.getElem?_eq_getElem (lt_of_get (hat k (by omega)))
    have e2 := List.getElem?_eq_getElem (lt_of_get (hat i hi))
    rw [hat k (by omega)] at e1
    rw [hat i hi] at e2
    injection e1 with e1
    injection e2 with e2
    rw [← e1, ← e2] at h2
    exact h2
end Go.Proofs.Ytlbbhlkbhegegaa
