/- Walks: ignitionlaw04.BusSchedules, BusFits. Printed by gen_tq4.py. -/
import Derived.Test.YtlbbhlkbhegegaaTp
import Derived.Test.YtlbbhlkbhegegaaW2
namespace Go.Proofs.Ytlbbhlkbhegegaa
open Go.RowKit

/-- what both schedules leave: some places, an error -/
def Sch (xs : List MPlace) (ec : Int) (W : World) (e : Ending) (w' : World) : Prop := Below W.heap.size W w' ∧ ∃ A c, e = .returned (.tuple #[.slice A xs.length c, .int .i64 ec]) ∧ (xs.length ≤ c ∧ GatesA w' w'.heap.size A (xs.map pg))
theorem sch_nil {W w' : World} {ec : Int} {e : Ending} (hb : Below W.heap.size W w') (he : e = .returned (.tuple #[.slice none 0 0, .int .i64 ec])) : Sch [] ec W e w' := ⟨hb, none, 0, he, Nat.le_refl _, fun hn => by simp at hn⟩
theorem sched_split {S C : Int} {m : List MGate} : ∃ xs ec, (xs.length ≤ m.length ∧ (slottedB S C m = false → xs = [])) ∧ ((ec = 43 ∧ slottedB S C m = false) ∨ (ec = 44 ∧ slottedB S C m = true ∧ ¬ Can S.toNat [] (m.map mm)) ∨ (ec = 0 ∧ slottedB S C m = true ∧ Can S.toNat [] (m.map mm) ∧ ((∃ ys, FirstR S.toNat [] (m.map mm) ys) → FirstR S.toNat [] (m.map mm) xs))) ∧
    (∀ W e w', SchedP S C m W e w' → Sch xs ec W e w' ∧ (ec = 0 → FirstR S.toNat [] (m.map mm) xs)) ∧ (∀ W e w', RSchedP S C m W e w' → Sch xs ec W e w') := by
  rcases h1 : slottedB S C m
  · refine ⟨[], 43, ⟨Nat.zero_le _, fun _ => rfl⟩, .inl ⟨rfl, rfl⟩, fun W e w' h => ?_, fun W e w' h => ?_⟩
    · obtain ⟨hb, ⟨_, he⟩ | ⟨h2, _⟩ | ⟨h2, _⟩⟩ := h
      · exact ⟨sch_nil hb he, fun h => by omega⟩
      · rw [h1] at h2; cases h2
      · rw [h1] at h2; cases h2
    · obtain ⟨hb, ⟨_, he⟩ | ⟨h2, _⟩ | ⟨h2, _⟩⟩ := h
      · exact sch_nil hb he
      · rw [h1] at h2; cases h2
      · rw [h1] at h2; cases h2
  · by_cases hc : Can S.toNat [] (m.map mm)
    · obtain ⟨xs, hx, hxl⟩ : ∃ xs, ((∃ ys, FirstR S.toNat [] (m.map mm) ys) → FirstR S.toNat [] (m.map mm) xs) ∧ xs.length ≤ m.length := by
        by_cases hy : ∃ ys, FirstR S.toNat [] (m.map mm) ys
        · obtain ⟨ys, hy⟩ := hy
          exact ⟨ys, fun _ => hy, by have := first_len hy; rw [List.length_map] at this; omega⟩
        · exact ⟨[], fun h => absurd h hy, Nat.zero_le _⟩
      refine ⟨xs, 0, ⟨hxl, fun h => by cases h⟩, .inr (.inr ⟨rfl, rfl, hc, hx⟩), fun W e w' h => ?_, fun W e w' h => ?_⟩
      · obtain ⟨hb, ⟨h2, _⟩ | ⟨_, h2, _⟩ | ⟨_, ys, v, hf, ho, he⟩⟩ := h
        · rw [h1] at h2; cases h2
        · exact absurd hc h2
        · have hfx := hx ⟨ys, hf⟩
          obtain rfl := first_unique hf hfx
          obtain ⟨A, c, rfl, hle, hg⟩ := ho.gates
          exact ⟨⟨hb, A, c, he, hle, hg⟩, fun _ => hf⟩
      · obtain ⟨hb, ⟨h2, _⟩ | ⟨_, h2, _⟩ | ⟨_, ys, A, c, hf, hle, hg, he⟩⟩ := h
        · rw [h1] at h2; cases h2
        · exact absurd hc h2
        · obtain rfl := first_unique hf (hx ⟨ys, hf⟩)
          exact ⟨hb, A, c, he, hle, hg⟩
    · refine ⟨[], 44, ⟨Nat.zero_le _, fun _ => rfl⟩, .inr (.inl ⟨rfl, rfl, hc⟩), fun W e w' h => ?_, fun W e w' h => ?_⟩
      · obtain ⟨hb, ⟨h2, _⟩ | ⟨_, _, he⟩ | ⟨_, ys, v, hf, _⟩⟩ := h
        · rw [h1] at h2; cases h2
        · exact ⟨sch_nil hb he, fun h => by omega⟩
        · exact absurd ⟨ys, first_comp hf⟩ hc
      · obtain ⟨hb, ⟨h2, _⟩ | ⟨_, _, he⟩ | ⟨_, ys, _, _, hf, _⟩⟩ := h
        · rw [h1] at h2; cases h2
        · exact sch_nil hb he
        · exact absurd ⟨ys, first_comp hf⟩ hc
set_option maxRecDepth 100000 in
set_option maxHeartbeats 8000000 in
theorem busSchedules_any (S C : Int) (A : Option Addr) (cap : Nat) (m : List MGate) (w : World) (h : GatesA w w.heap.size A m) (hm : m.length ≤ maxLen) (hcap : m.length ≤ cap) :
    Calls Try.prog 15 #[.agg #[.int .i64 S, .int .i64 C, .slice A m.length cap]] w fun e w' => e = .returned (.bool true) ∧ Below w.heap.size w w' := by
  have hE := SEnv.make (S := S) (C := C) (cap := cap) (t := 54) h
  obtain ⟨w1, hw1⟩ : ∃ w1, w.alloc (.cells #[.int .i64 S, .int .i64 C, .slice A m.length cap] 54) = w1 := ⟨_, rfl⟩
  rw [hw1] at hE
  have HX : Hid (∀ W, Below w1.heap.size w1 W → (W.cell? ⟨w.heap.size, 0, none⟩ = some (.int .i64 S) ∧ W.cell? ⟨w.heap.size, 1, none⟩ = some (.int .i64 C) ∧ W.cell? ⟨w.heap.size, 2, none⟩ = some (.slice A m.length cap)) ∧ GatesA W W.heap.size A m) := fun W hW => by
    have k := hE.below hW hE.size
    exact ⟨⟨k.c0, k.c1, k.c2⟩, k.msgs.more (by have := k.size; omega)⟩
  have HOLD : Hid (∀ W, Below w1.heap.size w1 W → Below w.heap.size w W) := fun W hW => hE.old.trans (hW.mono (Nat.le_of_lt hE.size))
  have HB1 : Hid (Below w1.heap.size w1 w1) := Below.refl _ _
  obtain ⟨v, hv⟩ : ∃ v : Int × Int, (if slottedB S C m = true then (((needC C.toNat (m.map mm) : Nat) : Int), (0 : Int)) else (0, 43)) = v := ⟨_, rfl⟩
  have HV := Lib.hid hv
  have H47 : Hid (∀ W, Below w1.heap.size w1 W → Calls Try.prog 47 #[.agg #[.int .i64 S, .int .i64 C, .slice A m.length cap]] W fun e w' => e = .returned (.tuple #[.int .i64 v.1, .int .i64 v.2]) ∧ Below W.heap.size W w') := fun W hW => need_any S C A cap m W (HX.out W hW).2 hm hv
  have H48 : Hid (∀ W, Below w1.heap.size w1 W → Calls Try.prog 48 #[.agg #[.int .i64 S, .int .i64 C, .slice A m.length cap]] W fun e w' => e = .returned (.tuple #[.int .i64 v.1, .int .i64 v.2]) ∧ Below W.heap.size W w') := fun W hW => rNeed_any S C A cap m W (HX.out W hW).2 hm hv
  have H49 : Hid (∀ (W : World) (r : Bool), bigB C m.length = r → Calls Try.prog 49 #[.agg #[.int .i64 S, .int .i64 C, .slice A m.length cap]] W fun e w' => e = .returned (.bool r) ∧ Below W.heap.size W w') := fun W r hr => slottedL_any S C A cap m.length W hm hr
  have H22 : Hid (∀ W, Calls Try.prog 22 #[] W fun e w' => e = .returned (.bool true) ∧ Below W.heap.size W w') := fun W => works_any W
  have g1 : (v.1 != v.1) = false := by simp
  have g2 : (v.2 != v.2) = false := by simp
  obtain ⟨⟨a0, a1, a2⟩, _⟩ := HX.out w1 (Below.refl _ _)
  have HMX := Lib.hid hm
  clear hE h hv
  rcases hb : bigB C m.length
  · have H50 : Hid (∀ W, Below w1.heap.size w1 W → Calls Try.prog 50 #[.agg #[.int .i64 S, .int .i64 C, .slice A m.length cap]] W (SchedP S C m W)) := fun W hW => schedule_any S C A cap m W (HX.out W hW).2 HMX.out hcap (fun hs => by have := big_small hb hs; omega)
    have H51 : Hid (∀ W, Below w1.heap.size w1 W → Calls Try.prog 51 #[.agg #[.int .i64 S, .int .i64 C, .slice A m.length cap]] W (RSchedP S C m W)) := fun W hW => rschedule_any S C A cap m W (HX.out W hW).2 HMX.out
    have HSM : Hid (slottedB S C m = true → m.length ≤ 7) := fun hs => big_small hb hs
    have HBF : Hid (∀ W, Calls Try.prog 49 #[.agg #[.int .i64 S, .int .i64 C, .slice A m.length cap]] W fun e w' => e = .returned (.bool false) ∧ Below W.heap.size W w') := fun W => H49.out W false hb
    clear hb hcap hm
    go_enter Try.func15, Try.ntmps15
    go_upto_region 1 with fail
    (try rw [hw1])
    clear hw1
    go_upto_region 7 with (first
      | (go_at_call 47; refine (H47.out _ HB1.out).mono ?_; rintro e w2 ⟨rfl, hb2⟩; have HB2 : Hid (Below w1.heap.size w1 w2) := HB1.out.trans (hb2.mono HB1.out.size); obtain ⟨⟨a0, a1, a2⟩, _⟩ := HX.out w2 HB2.out; clear hb2)
      | (go_at_call 48; refine (H48.out _ HB2.out).mono ?_; rintro e w3 ⟨rfl, hb3⟩; have HB3 : Hid (Below w1.heap.size w1 w3) := HB2.out.trans (hb3.mono HB2.out.size); obtain ⟨⟨a0, a1, a2⟩, _⟩ := HX.out w3 HB3.out; clear hb3)
      | (go_at_call 49; refine (HBF.out w3).mono ?_; rintro e w4 ⟨rfl, hb4⟩; have HB4 : Hid (Below w1.heap.size w1 w4) := HB3.out.trans (hb4.mono HB3.out.size); obtain ⟨⟨a0, a1, a2⟩, _⟩ := HX.out w4 HB4.out; clear hb4))
    obtain ⟨xs, ec, ⟨hxl, hxn⟩, _, hs1, hs2⟩ := sched_split (S := S) (C := C) (m := m)
    have HXL : Hid (xs.length ≤ 1000) := by
      show _ ≤ _
      rcases hq : slottedB S C m
      · rw [hxn hq]; exact Nat.zero_le _
      · have := HSM.out hq; omega
    have H50' : Hid (∀ W, Below w1.heap.size w1 W → Calls Try.prog 50 #[.agg #[.int .i64 S, .int .i64 C, .slice A m.length cap]] W (Sch xs ec W)) := fun W hW => (H50.out W hW).mono fun e w' h => (hs1 W e w' h).1
    have H51' : Hid (∀ W, Below w1.heap.size w1 W → Calls Try.prog 51 #[.agg #[.int .i64 S, .int .i64 C, .slice A m.length cap]] W (Sch xs ec W)) := fun W hW => (H51.out W hW).mono fun e w' h => hs2 W e w' h
    have HSS : Hid (∀ (A B : Option Addr) (ca cb : Nat) (W : World), GatesA W W.heap.size A (xs.map pg) → GatesA W W.heap.size B (xs.map pg) → Calls Try.prog 52 #[.slice A xs.length ca, .slice B xs.length cb] W fun e w' => e = .returned (.bool true) ∧ Below W.heap.size W w') := fun A B ca cb W h1 h2 => by
      have := sameSlots_any A B ca cb (xs.map pg) W h1 h2 (by rw [List.length_map]; exact HXL.out)
      rw [List.length_map] at this
      exact this
    have g3 : (ec == ec) = true := by simp
    clear H50 H51 hs1 hs2 hxl hxn
    go_wp2_with (first
      | (go_at_call 50; refine (H50'.out _ HB4.out).mono ?_; rintro e w5 ⟨hb5, A5, c5, rfl, hl5, hg5⟩; have HB5 : Hid (Below w1.heap.size w1 w5) := HB4.out.trans (hb5.mono HB4.out.size); have HG5 := Lib.hid hg5; obtain ⟨⟨a0, a1, a2⟩, _⟩ := HX.out w5 HB5.out; clear hb5 hg5 hl5)
      | (go_at_call 51; refine (H51'.out _ HB5.out).mono ?_; rintro e w6 ⟨hb6, A6, c6, rfl, hl6, hg6⟩; have HB56 := Lib.hid hb6; have HG56 : Hid (GatesA w6 w6.heap.size A5 (xs.map pg)) := (HG5.out.below hb6 (Nat.le_refl _)).more hb6.size; have HB6 : Hid (Below w1.heap.size w1 w6) := HB5.out.trans (hb6.mono HB5.out.size); have HG6 := Lib.hid hg6; clear hb6 hg6 hl6)
      | (go_at_call 52; refine (HSS.out _ _ _ _ _ HG56.out HG6.out).mono ?_; rintro e w7 ⟨rfl, hb7⟩; have HB7 : Hid (Below w1.heap.size w1 w7) := HB6.out.trans (hb7.mono HB6.out.size); clear hb7)
      | (go_at_call 22; refine (H22.out _).mono ?_; rintro e w8 ⟨rfl, hb8⟩; have HB8 : Hid (Below w1.heap.size w1 w8) := HB7.out.trans (hb8.mono HB7.out.size); clear hb8))
    go_ret
    exact ⟨rfl, HOLD.out _ HB8.out⟩
  · have HBF : Hid (∀ W, Calls Try.prog 49 #[.agg #[.int .i64 S, .int .i64 C, .slice A m.length cap]] W fun e w' => e = .returned (.bool true) ∧ Below W.heap.size W w') := fun W => H49.out W true hb
    clear hb hcap hm
    go_enter Try.func15, Try.ntmps15
    go_upto_region 1 with fail
    (try rw [hw1])
    clear hw1
    go_wp2_with (first
      | (go_at_call 47; refine (H47.out _ HB1.out).mono ?_; rintro e w2 ⟨rfl, hb2⟩; have HB2 : Hid (Below w1.heap.size w1 w2) := HB1.out.trans (hb2.mono HB1.out.size); obtain ⟨⟨a0, a1, a2⟩, _⟩ := HX.out w2 HB2.out; clear hb2)
      | (go_at_call 48; refine (H48.out _ HB2.out).mono ?_; rintro e w3 ⟨rfl, hb3⟩; have HB3 : Hid (Below w1.heap.size w1 w3) := HB2.out.trans (hb3.mono HB2.out.size); obtain ⟨⟨a0, a1, a2⟩, _⟩ := HX.out w3 HB3.out; clear hb3)
      | (go_at_call 49; refine (HBF.out w3).mono ?_; rintro e w4 ⟨rfl, hb4⟩; have HB4 : Hid (Below w1.heap.size w1 w4) := HB3.out.trans (hb4.mono HB3.out.size); clear hb4)
      | (go_at_call 22; refine (H22.out _).mono ?_; rintro e w5 ⟨rfl, hb5⟩; have HB5 : Hid (Below w1.heap.size w1 w5) := HB4.out.trans (hb5.mono HB4.out.size); clear hb5))
    go_ret
    exact ⟨rfl, HOLD.out _ HB5.out⟩
set_option maxRecDepth 100000 in
set_option maxHeartbeats 8000000 in
theorem busFits_any (S C : Int) (A : Option Addr) (cap : Nat) (m : List MGate) (L : Option Addr) (lc : Nat) (l : List MGate) (w : World) (h : GatesA w w.heap.size A m) (hm : m.length ≤ maxLen) (hcap : m.length ≤ cap) (hL : GatesA w w.heap.size L l) (hlm : l.length ≤ maxLen) (hlc : l.length ≤ lc) :
    Calls Try.prog 16 #[.agg #[.int .i64 S, .int .i64 C, .slice A m.length cap], .slice L l.length lc] w fun e w' => e = .returned (.bool true) ∧ Below w.heap.size w w' := by
  have hE := SEnv.make (S := S) (C := C) (cap := cap) (t := 54) h
  obtain ⟨w1, hw1⟩ : ∃ w1, w.alloc (.cells #[.int .i64 S, .int .i64 C, .slice A m.length cap] 54) = w1 := ⟨_, rfl⟩
  rw [hw1] at hE
  have HX : Hid (∀ W, Below w1.heap.size w1 W → (W.cell? ⟨w.heap.size, 0, none⟩ = some (.int .i64 S) ∧ W.cell? ⟨w.heap.size, 1, none⟩ = some (.int .i64 C) ∧ W.cell? ⟨w.heap.size, 2, none⟩ = some (.slice A m.length cap)) ∧ GatesA W W.heap.size A m) := fun W hW => by
    have k := hE.below hW hE.size
    exact ⟨⟨k.c0, k.c1, k.c2⟩, k.msgs.more (by have := k.size; omega)⟩
  have HOLD : Hid (∀ W, Below w1.heap.size w1 W → Below w.heap.size w W) := fun W hW => hE.old.trans (hW.mono (Nat.le_of_lt hE.size))
  have HB1 : Hid (Below w1.heap.size w1 w1) := Below.refl _ _
  obtain ⟨v, hv⟩ : ∃ v : Int × Int, (if slottedB S C m = true then (((needC C.toNat (m.map mm) : Nat) : Int), (0 : Int)) else (0, 43)) = v := ⟨_, rfl⟩
  have HV := Lib.hid hv
  have H47 : Hid (∀ W, Below w1.heap.size w1 W → Calls Try.prog 47 #[.agg #[.int .i64 S, .int .i64 C, .slice A m.length cap]] W fun e w' => e = .returned (.tuple #[.int .i64 v.1, .int .i64 v.2]) ∧ Below W.heap.size W w') := fun W hW => need_any S C A cap m W (HX.out W hW).2 hm hv
  have H48 : Hid (∀ W, Below w1.heap.size w1 W → Calls Try.prog 48 #[.agg #[.int .i64 S, .int .i64 C, .slice A m.length cap]] W fun e w' => e = .returned (.tuple #[.int .i64 v.1, .int .i64 v.2]) ∧ Below W.heap.size W w') := fun W hW => rNeed_any S C A cap m W (HX.out W hW).2 hm hv
  have H49 : Hid (∀ (W : World) (r : Bool), bigB C m.length = r → Calls Try.prog 49 #[.agg #[.int .i64 S, .int .i64 C, .slice A m.length cap]] W fun e w' => e = .returned (.bool r) ∧ Below W.heap.size W w') := fun W r hr => slottedL_any S C A cap m.length W hm hr
  have H22 : Hid (∀ W, Calls Try.prog 22 #[] W fun e w' => e = .returned (.bool true) ∧ Below W.heap.size W w') := fun W => works_any W
  have HLL : Hid (∀ W, Below w1.heap.size w1 W → GatesA W W.heap.size L l) := fun W hW => (hL.below (HOLD.out W hW) (Nat.le_refl _)).more (HOLD.out W hW).size
  obtain ⟨ow, how⟩ : ∃ ow, slotsS S C m l = ow := ⟨_, rfl⟩
  have HOW := Lib.hid how
  have H33 : Hid (∀ W, Below w1.heap.size w1 W → Calls Try.prog 33 #[.agg #[.int .i64 S, .int .i64 C, .slice A m.length cap], .slice L l.length lc] W fun e w' => e = .returned (.int .i64 ow) ∧ Below W.heap.size W w') := fun W hW => by
    have := checkSlots_any S C A L cap lc m l W (HX.out W hW).2 hm (HLL.out W hW) hlm hlc
    rw [how] at this
    exact this
  obtain ⟨⟨a0, a1, a2⟩, _⟩ := HX.out w1 (Below.refl _ _)
  have HMX := Lib.hid hm
  clear hE h hL how
  rcases hb : bigB C m.length
  rotate_left
  · have HBF : Hid (∀ W, Calls Try.prog 49 #[.agg #[.int .i64 S, .int .i64 C, .slice A m.length cap]] W fun e w' => e = .returned (.bool true) ∧ Below W.heap.size W w') := fun W => H49.out W true hb
    clear hb hcap hm hv
    go_enter Try.func16, Try.ntmps16
    go_upto_region 1 with fail
    (try rw [hw1])
    clear hw1
    go_wp2_with (first
      | (go_at_call 49; refine (HBF.out w1).mono ?_; rintro e w2 ⟨rfl, hb2⟩; have HB2 : Hid (Below w1.heap.size w1 w2) := HB1.out.trans (hb2.mono HB1.out.size); clear hb2)
      | (go_at_call 22; refine (H22.out _).mono ?_; rintro e w5 ⟨rfl, hb5⟩; have HB5 : Hid (Below w1.heap.size w1 w5) := HB2.out.trans (hb5.mono HB2.out.size); clear hb5))
    go_ret
    exact ⟨rfl, HOLD.out _ HB5.out⟩
  have hsm : slottedB S C m = true → m.length ≤ 7 := fun hs => big_small hb hs
  have HBF : Hid (∀ W, Calls Try.prog 49 #[.agg #[.int .i64 S, .int .i64 C, .slice A m.length cap]] W fun e w' => e = .returned (.bool false) ∧ Below W.heap.size W w') := fun W => H49.out W false hb
  have H50 : Hid (∀ W, Below w1.heap.size w1 W → Calls Try.prog 50 #[.agg #[.int .i64 S, .int .i64 C, .slice A m.length cap]] W (SchedP S C m W)) := fun W hW => schedule_any S C A cap m W (HX.out W hW).2 HMX.out hcap (fun hs => by have := hsm hs; omega)
  obtain ⟨xs, ec, ⟨hxl, hxn⟩, hcases, hs1, _⟩ := sched_split (S := S) (C := C) (m := m)
  have H50' : Hid (∀ W, Below w1.heap.size w1 W → Calls Try.prog 50 #[.agg #[.int .i64 S, .int .i64 C, .slice A m.length cap]] W (fun e w' => Sch xs ec W e w' ∧ (ec = 0 → FirstR S.toNat [] (m.map mm) xs))) := fun W hW => (H50.out W hW).mono fun e w' h => hs1 W e w' h
  have HXL : Hid (xs.length ≤ 1000) := by
    show _ ≤ _
    rcases hq : slottedB S C m
    · rw [hxn hq]; exact Nat.zero_le _
    · have := hsm hq; omega
  clear H50 hs1 hxl hxn hb H49 H48
  rcases hcases with ⟨rfl, hsl⟩ | ⟨rfl, hsl, hnc⟩ | ⟨rfl, hsl, hc, _⟩
  · rw [hsl, if_neg (by simp)] at hv
    subst hv
    have ho : ow = 43 := by rw [← HOW.out]; exact slots_43 hsl
    subst ho
    clear hsl hsm hm hcap HV
    go_enter Try.func16, Try.ntmps16
    go_upto_region 1 with fail
    (try rw [hw1])
    clear hw1
    go_wp2_with (first
      | (go_at_call 49; refine (HBF.out w1).mono ?_; rintro e w2 ⟨rfl, hb2⟩; have HBF2 : Hid (Below w1.heap.size w1 w2) := HB1.out.trans (hb2.mono HB1.out.size); obtain ⟨⟨a0, a1, a2⟩, _⟩ := HX.out w2 HBF2.out; clear hb2)
      | (go_at_call 50; refine (H50'.out _ HBF2.out).mono ?_; rintro e w3 ⟨⟨hb3, A3, c3, rfl, hl3, hg3⟩, hf3⟩; have HB3 : Hid (Below w1.heap.size w1 w3) := HBF2.out.trans (hb3.mono HBF2.out.size); have HG3 := Lib.hid hg3; (first | have HF3 := Lib.hid (hf3 rfl) | have HF3 := Lib.hid (hf3 trivial) | skip); have HL3 := Lib.hid hl3; obtain ⟨⟨a0, a1, a2⟩, _⟩ := HX.out w3 HB3.out; clear hb3 hg3 hl3 hf3)
      | (go_at_call 47; refine (H47.out _ HB3.out).mono ?_; rintro e w4 ⟨rfl, hb4⟩; have HB34 := Lib.hid hb4; have HB4 : Hid (Below w1.heap.size w1 w4) := HB3.out.trans (hb4.mono HB3.out.size); obtain ⟨⟨a0, a1, a2⟩, _⟩ := HX.out w4 HB4.out; clear hb4)
      | (go_at_call 33; (with_reducible refine (H33.out w4 HB4.out).mono ?_); rintro e w5 ⟨rfl, hb5⟩; have HB45 := Lib.hid hb5; have HB5 : Hid (Below w1.heap.size w1 w5) := HB4.out.trans (hb5.mono HB4.out.size); obtain ⟨⟨a0, a1, a2⟩, _⟩ := HX.out w5 HB5.out; clear hb5)
      | (go_at_call 22; refine (H22.out _).mono ?_; rintro e w6 ⟨rfl, hb6⟩; have HB6 : Hid (Below w1.heap.size w1 w6) := HB5.out.trans (hb6.mono HB5.out.size); clear hb6))
    go_ret
    exact ⟨rfl, HOLD.out _ HB6.out⟩
  · rw [hsl, if_pos rfl] at hv
    subst hv
    have hS := (slotted_parts hsl).1
    have hnd : S < ((needC C.toNat (m.map mm) : Nat) : Int) := by
      have h1 := can_slotted hsl
      have h2 : ¬ needC C.toNat (m.map mm) ≤ S.toNat := fun h => hnc (h1.2 h)
      omega
    have ho : ¬ ow = 0 := fun h => by
      obtain ⟨ys, _, hcp⟩ := comp_of_slots hsl (HOW.out.trans h)
      exact hnc ⟨ys, hcp⟩
    obtain ⟨nd, hnn⟩ : ∃ nd, ((needC C.toNat (m.map mm) : Nat) : Int) = nd := ⟨_, rfl⟩
    rw [hnn] at hnd H47
    have g1 : decide (S < nd) = true := decide_eq_true hnd
    have g2 : (ow != 0) = true := by simpa using ho
    clear hsl hsm hm hcap hnc hnn hS HV hnd ho
    go_enter Try.func16, Try.ntmps16
    go_upto_region 1 with fail
    (try rw [hw1])
    clear hw1
    go_wp2_with (first
      | (go_at_call 49; refine (HBF.out w1).mono ?_; rintro e w2 ⟨rfl, hb2⟩; have HBF2 : Hid (Below w1.heap.size w1 w2) := HB1.out.trans (hb2.mono HB1.out.size); obtain ⟨⟨a0, a1, a2⟩, _⟩ := HX.out w2 HBF2.out; clear hb2)
      | (go_at_call 50; refine (H50'.out _ HBF2.out).mono ?_; rintro e w3 ⟨⟨hb3, A3, c3, rfl, hl3, hg3⟩, hf3⟩; have HB3 : Hid (Below w1.heap.size w1 w3) := HBF2.out.trans (hb3.mono HBF2.out.size); have HG3 := Lib.hid hg3; (first | have HF3 := Lib.hid (hf3 rfl) | have HF3 := Lib.hid (hf3 trivial) | skip); have HL3 := Lib.hid hl3; obtain ⟨⟨a0, a1, a2⟩, _⟩ := HX.out w3 HB3.out; clear hb3 hg3 hl3 hf3)
      | (go_at_call 47; refine (H47.out _ HB3.out).mono ?_; rintro e w4 ⟨rfl, hb4⟩; have HB34 := Lib.hid hb4; have HB4 : Hid (Below w1.heap.size w1 w4) := HB3.out.trans (hb4.mono HB3.out.size); obtain ⟨⟨a0, a1, a2⟩, _⟩ := HX.out w4 HB4.out; clear hb4)
      | (go_at_call 33; (with_reducible refine (H33.out w4 HB4.out).mono ?_); rintro e w5 ⟨rfl, hb5⟩; have HB45 := Lib.hid hb5; have HB5 : Hid (Below w1.heap.size w1 w5) := HB4.out.trans (hb5.mono HB4.out.size); obtain ⟨⟨a0, a1, a2⟩, _⟩ := HX.out w5 HB5.out; clear hb5)
      | (go_at_call 22; refine (H22.out _).mono ?_; rintro e w6 ⟨rfl, hb6⟩; have HB6 : Hid (Below w1.heap.size w1 w6) := HB5.out.trans (hb6.mono HB5.out.size); clear hb6))
    go_ret
    exact ⟨rfl, HOLD.out _ HB6.out⟩
  · rw [hsl, if_pos rfl] at hv
    subst hv
    have hS := (slotted_parts hsl).1
    have hnd : ¬ S < ((needC C.toNat (m.map mm) : Nat) : Int) := by
      have h1 := (can_slotted hsl).1 hc
      omega
    obtain ⟨nd, hnn⟩ : ∃ nd, ((needC C.toNat (m.map mm) : Nat) : Int) = nd := ⟨_, rfl⟩
    rw [hnn] at hnd H47
    have g1 : decide (S < nd) = false := decide_eq_false hnd
    have H33' : Hid (∀ (W : World) (A3 : Option Addr) (c3 : Nat), Below w1.heap.size w1 W → FirstR S.toNat [] (m.map mm) xs → xs.length ≤ c3 → GatesA W W.heap.size A3 (xs.map pg) → Calls Try.prog 33 #[.agg #[.int .i64 S, .int .i64 C, .slice A m.length cap], .slice A3 xs.length c3] W fun e w' => e = .returned (.int .i64 0) ∧ Below W.heap.size W w') := fun W A3 c3 hW hf hl3 hg => by
      have := checkSlots_any S C A A3 cap c3 m (xs.map pg) W (HX.out W hW).2 hm hg (by rw [List.length_map]; have := HXL.out; unfold maxLen; omega) (by rw [List.length_map]; exact hl3)
      rw [List.length_map, slots_of_comp hsl (first_comp hf)] at this
      exact this
    have H53 : Hid (ow = 0 → ∀ (W : World) (A3 : Option Addr) (c3 : Nat), Below w1.heap.size w1 W → FirstR S.toNat [] (m.map mm) xs → GatesA W W.heap.size A3 (xs.map pg) → Calls Try.prog 53 #[.slice L l.length lc, .slice A3 xs.length c3] W fun e w' => e = .returned (.bool false) ∧ Below W.heap.size W w') := fun ho W A3 c3 hW hf hg => by
      obtain ⟨ys, hly, hcp⟩ := comp_of_slots hsl (HOW.out.trans ho)
      have hne : earlyG l (xs.map pg) = false := by
        rcases hq : earlyG l (xs.map pg)
        · rfl
        · rw [hly] at hq
          exact absurd (early_iff hq) (first_least hf hcp)
      have hll : l.length ≤ 1000 := by
        have h1 := (comp_fits.1 hcp).1
        have h2 := hsm hsl
        rw [hly, List.length_map, h1, List.length_map]
        omega
      have := earlier_any L A3 lc c3 l (xs.map pg) W (HLL.out W hW) hg hll hne
      rw [List.length_map] at this
      exact this
    clear hsl hsm hm hcap hnn hS HV hnd hc
    by_cases ho : ow = 0
    · have H53' := Lib.hid (H53.out ho)
      subst ho
      clear H53
      go_enter Try.func16, Try.ntmps16
      go_upto_region 1 with fail
      (try rw [hw1])
      clear hw1
      go_wp2_with (first
      | (go_at_call 49; refine (HBF.out w1).mono ?_; rintro e w2 ⟨rfl, hb2⟩; have HBF2 : Hid (Below w1.heap.size w1 w2) := HB1.out.trans (hb2.mono HB1.out.size); obtain ⟨⟨a0, a1, a2⟩, _⟩ := HX.out w2 HBF2.out; clear hb2)
      | (go_at_call 50; refine (H50'.out _ HBF2.out).mono ?_; rintro e w3 ⟨⟨hb3, A3, c3, rfl, hl3, hg3⟩, hf3⟩; have HB3 : Hid (Below w1.heap.size w1 w3) := HBF2.out.trans (hb3.mono HBF2.out.size); have HG3 := Lib.hid hg3; (first | have HF3 := Lib.hid (hf3 rfl) | have HF3 := Lib.hid (hf3 trivial) | skip); have HL3 := Lib.hid hl3; obtain ⟨⟨a0, a1, a2⟩, _⟩ := HX.out w3 HB3.out; clear hb3 hg3 hl3 hf3)
      | (go_at_call 47; refine (H47.out _ HB3.out).mono ?_; rintro e w4 ⟨rfl, hb4⟩; have HB34 := Lib.hid hb4; have HB4 : Hid (Below w1.heap.size w1 w4) := HB3.out.trans (hb4.mono HB3.out.size); obtain ⟨⟨a0, a1, a2⟩, _⟩ := HX.out w4 HB4.out; clear hb4)
      | (go_at_call 33; (with_reducible refine (H33.out w4 HB4.out).mono ?_); rintro e w5 ⟨rfl, hb5⟩; have HB45 := Lib.hid hb5; have HB5 : Hid (Below w1.heap.size w1 w5) := HB4.out.trans (hb5.mono HB4.out.size); obtain ⟨⟨a0, a1, a2⟩, _⟩ := HX.out w5 HB5.out; clear hb5)
      | (go_at_call 33; refine (H33'.out w5 A3 c3 HB5.out HF3.out HL3.out ((HG3.out.below (HB34.out.trans (HB45.out.mono HB34.out.size)) (Nat.le_refl _)).more (HB34.out.trans (HB45.out.mono HB34.out.size)).size)).mono ?_; rintro e w6 ⟨rfl, hb6⟩; have HB6 : Hid (Below w1.heap.size w1 w6) := HB5.out.trans (hb6.mono HB5.out.size); have HB36 : Hid (Below w3.heap.size w3 w6) := (HB34.out.trans (HB45.out.mono HB34.out.size)).trans (hb6.mono (HB34.out.trans (HB45.out.mono HB34.out.size)).size); clear hb6)
        | (go_at_call 53; refine (H53'.out w6 A3 c3 HB6.out HF3.out ((HG3.out.below HB36.out (Nat.le_refl _)).more HB36.out.size)).mono ?_; rintro e w7 ⟨rfl, hb7⟩; have HB7 : Hid (Below w1.heap.size w1 w7) := HB6.out.trans (hb7.mono HB6.out.size); clear hb7)
        | (go_at_call 22; refine (H22.out _).mono ?_; rintro e w8 ⟨rfl, hb8⟩; have HB8 : Hid (Below w1.heap.size w1 w8) := HB7.out.trans (hb8.mono HB7.out.size); clear hb8))
      go_ret
      exact ⟨rfl, HOLD.out _ HB8.out⟩
    · have g2 : (ow != 0) = true := by simpa using ho
      clear H53 ho
      go_enter Try.func16, Try.ntmps16
      go_upto_region 1 with fail
      (try rw [hw1])
      clear hw1
      go_wp2_with (first
      | (go_at_call 49; refine (HBF.out w1).mono ?_; rintro e w2 ⟨rfl, hb2⟩; have HBF2 : Hid (Below w1.heap.size w1 w2) := HB1.out.trans (hb2.mono HB1.out.size); obtain ⟨⟨a0, a1, a2⟩, _⟩ := HX.out w2 HBF2.out; clear hb2)
      | (go_at_call 50; refine (H50'.out _ HBF2.out).mono ?_; rintro e w3 ⟨⟨hb3, A3, c3, rfl, hl3, hg3⟩, hf3⟩; have HB3 : Hid (Below w1.heap.size w1 w3) := HBF2.out.trans (hb3.mono HBF2.out.size); have HG3 := Lib.hid hg3; (first | have HF3 := Lib.hid (hf3 rfl) | have HF3 := Lib.hid (hf3 trivial) | skip); have HL3 := Lib.hid hl3; obtain ⟨⟨a0, a1, a2⟩, _⟩ := HX.out w3 HB3.out; clear hb3 hg3 hl3 hf3)
      | (go_at_call 47; refine (H47.out _ HB3.out).mono ?_; rintro e w4 ⟨rfl, hb4⟩; have HB34 := Lib.hid hb4; have HB4 : Hid (Below w1.heap.size w1 w4) := HB3.out.trans (hb4.mono HB3.out.size); obtain ⟨⟨a0, a1, a2⟩, _⟩ := HX.out w4 HB4.out; clear hb4)
      | (go_at_call 33; (with_reducible refine (H33.out w4 HB4.out).mono ?_); rintro e w5 ⟨rfl, hb5⟩; have HB45 := Lib.hid hb5; have HB5 : Hid (Below w1.heap.size w1 w5) := HB4.out.trans (hb5.mono HB4.out.size); obtain ⟨⟨a0, a1, a2⟩, _⟩ := HX.out w5 HB5.out; clear hb5)
      | (go_at_call 33; refine (H33'.out w5 A3 c3 HB5.out HF3.out HL3.out ((HG3.out.below (HB34.out.trans (HB45.out.mono HB34.out.size)) (Nat.le_refl _)).more (HB34.out.trans (HB45.out.mono HB34.out.size)).size)).mono ?_; rintro e w6 ⟨rfl, hb6⟩; have HB6 : Hid (Below w1.heap.size w1 w6) := HB5.out.trans (hb6.mono HB5.out.size); clear hb6)
        | (go_at_call 22; refine (H22.out _).mono ?_; rintro e w8 ⟨rfl, hb8⟩; have HB8 : Hid (Below w1.heap.size w1 w8) := HB6.out.trans (hb8.mono HB6.out.size); clear hb8))
      go_ret
      exact ⟨rfl, HOLD.out _ HB8.out⟩
theorem busSchedules_row (S C : Int) (A : Option Addr) (cap : Nat) (m : List MGate) (w : World) (hmc : m.length ≤ cap) (hcm : cap ≤ maxLen) (h : GatesA w w.heap.size A m)
    (_ : (Lit.int .i64 S).wf = true ∧ (Lit.int .i64 C).wf = true ∧ ∀ g ∈ m, (Lit.int .i64 g.rate).wf = true ∧ (Lit.int .i64 g.delay).wf = true) :
    Calls Try.prog 15 #[.agg #[.int .i64 S, .int .i64 C, .slice A m.length cap]] w fun e w' => e = .returned (.bool true) ∧ Below w.heap.size w w' :=
  busSchedules_any S C A cap m w h (by omega) hmc
theorem busFits_row (S C : Int) (A : Option Addr) (cap : Nat) (m : List MGate) (L : Option Addr) (lcap : Nat) (l : List MGate) (w : World) (hmc : m.length ≤ cap) (hcm : cap ≤ maxLen) (h : GatesA w w.heap.size A m)
    (_ : (Lit.int .i64 S).wf = true ∧ (Lit.int .i64 C).wf = true ∧ ∀ g ∈ m, (Lit.int .i64 g.rate).wf = true ∧ (Lit.int .i64 g.delay).wf = true) (hlc : l.length ≤ lcap) (hlm : lcap ≤ maxLen) (hG : GatesA w w.heap.size L l) (_ : ∀ g ∈ l, (Lit.int .i64 g.rate).wf = true ∧ (Lit.int .i64 g.delay).wf = true) :
    Calls Try.prog 16 #[.agg #[.int .i64 S, .int .i64 C, .slice A m.length cap], .slice L l.length lcap] w fun e w' => e = .returned (.bool true) ∧ Below w.heap.size w w' :=
  busFits_any S C A cap m L lcap l w h (by omega) hmc hG (by omega) hlc
end Go.Proofs.Ytlbbhlkbhegegaa
