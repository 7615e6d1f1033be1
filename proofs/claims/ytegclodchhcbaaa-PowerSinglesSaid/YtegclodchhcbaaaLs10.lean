/- Law: the faults that harm a level alone. -/
import Derived.Test.YtegclodchhcbaaaEx
import Derived.Test.YtegclodchhcbaaaSz
import Derived.Test.YtegclodchhcbaaaSw
namespace Go.Proofs.Ytegclodchhcbaaa
open Go.RowKit

theorem few_far {g : MGrid} (h : farB g = false) : FewG g := by
  unfold farB at h
  simp only [Bool.or_eq_false_iff, decide_eq_false_iff_not] at h
  exact ⟨by omega, by omega, by omega⟩
theorem grid_same {g : MGrid} {n n' : Nat} (h : GridOk g n) (h' : GridOk g n') : n = n' := by
  have h1 := h.nodes
  have h2 := h'.nodes
  omega
theorem singles_det (g : MGrid) (level : Int) : ∃ L : List MFault, L.length ≤ 66 ∧ (levelG g level = 0 → ∃ n, GridOk g n ∧ L = singL g level (allF g n) (allF g n).length) ∧ ∀ w e w', SingP g level w e w' → (∃ A c, e = .returned (.tuple #[.slice A L.length c, .int .i64 (levelG g level)]) ∧ FaultsA w' w'.heap.size A L) ∧ Below w.heap.size w w' := by
  by_cases h : levelG g level = 0
  · obtain ⟨n, hg⟩ := checkG_ok (levelG_ok h).1
    have hl : (singL g level (allF g n) (allF g n).length).length ≤ 66 := by
      have h1 := singL_len g level (allF g n) (allF g n).length
      rw [allF_len] at h1
      have := hg.few; have := hg.ns; have := hg.nl
      rw [← allF_len] at h1
      have h2 := allF_len g n
      omega
    refine ⟨_, hl, fun _ => ⟨n, hg, rfl⟩, fun w e w' ⟨hb, hp⟩ => ⟨?_, hb⟩⟩
    rcases hp with ⟨k, _⟩ | ⟨_, n', v, hg', he, ho⟩
    · exact absurd h k
    · obtain rfl := grid_same hg hg'
      obtain ⟨A, c, rfl, _, hi⟩ := ho.reads (by unfold maxLen; omega)
      exact ⟨A, c, by rw [he, h], hi⟩
  · refine ⟨[], by simp, fun k => absurd k h, fun w e w' ⟨hb, hp⟩ => ⟨?_, hb⟩⟩
    rcases hp with ⟨_, he⟩ | ⟨k, _⟩
    · exact ⟨none, 0, he, Nat.zero_le _, fun h => by simp at h⟩
    · exact absurd k h
theorem small_far {g : MGrid} (h : smallB g = true) : farB g = false := by
  unfold smallB at h
  simp only [Bool.and_eq_true, Bool.not_eq_true'] at h
  exact h.1
/-- one of the first k is x -/
def hasF (L : List MFault) (x0 x1 : Int) (k : Nat) : Bool := (L.take k).any fun y => y.kind == x0 && y.number == x1
theorem hasF_step {L : List MFault} {x0 x1 : Int} {k : Nat} (hk : k < L.length) : hasF L x0 x1 (k + 1) = (hasF L x0 x1 k || ((L.getD k dFault).kind == x0 && (L.getD k dFault).number == x1)) := by
  unfold hasF
  rw [List.take_add_one, List.any_append, List.getElem?_eq_getElem hk, List.getD_eq_getElem?_getD, List.getElem?_eq_getElem hk]
  simp
theorem hasF_all {L : List MFault} {x : MFault} (h : x ∈ L) : hasF L x.kind x.number L.length = true := by
  unfold hasF
  rw [List.take_length, List.any_eq_true]
  exact ⟨x, h, by simp⟩
theorem level_lower {g : MGrid} {level : Int} (h : levelG g level = 0) (hz : level ≠ 0) : levelG g (level - 1) = 0 ∧ 1 ≤ level ∧ level ≤ 4 := by
  obtain ⟨h1, h2⟩ := levelG_ok h
  rw [inB_iff] at h2
  refine ⟨?_, by omega, by omega⟩
  unfold levelG
  rw [if_pos h1, if_pos (inB_iff.2 ⟨by omega, by omega⟩)]
set_option maxRecDepth 100000 in
set_option maxHeartbeats 8000000 in
theorem singles_any (g : MGrid) (A1 A2 A3 : Option Addr) (c1 c2 c3 : Nat) (level : Int) (w : World) (h : GridA w w.heap.size g A1 A2 A3) :
    Calls Try.prog 13 #[.agg (gridC g A1 A2 A3 c1 c2 c3), .int .i64 level] w fun e w' => e = .returned (.bool true) ∧ Below w.heap.size w w' := by
  obtain ⟨w1, hw1⟩ : ∃ w1, w.alloc (.cells #[.int .i64 g.nodes, .slice A1 g.lines.length c1, .slice A2 g.srcs.length c2, .slice A3 g.users.length c3] 26) = w1 := ⟨_, rfl⟩
  have hb1 : Below w.heap.size w w1 := by rw [← hw1]; exact (Below.refl _ _).alloc (Nat.le_refl _) _
  have hs1 : w1.heap.size = w.heap.size + 1 := by rw [← hw1]; simp
  have hx1 : w1.heap[w.heap.size]? = some (.cells #[.int .i64 g.nodes, .slice A1 g.lines.length c1, .slice A2 g.srcs.length c2, .slice A3 g.users.length c3] 26 (0, 0)) := by rw [← hw1]; exact heap_alloc_new w _
  have HX : Hid (∀ W, Below w1.heap.size w1 W → Below w.heap.size w W ∧ W.cell? ⟨w.heap.size, 0, none⟩ = some (.int .i64 g.nodes) ∧ W.cell? ⟨w.heap.size, 1, none⟩ = some (.slice A1 g.lines.length c1) ∧ W.cell? ⟨w.heap.size, 2, none⟩ = some (.slice A2 g.srcs.length c2) ∧ W.cell? ⟨w.heap.size, 3, none⟩ = some (.slice A3 g.users.length c3)) := fun W hW => by
    have h1 := (hW.block w.heap.size (by omega)).trans hx1
    exact ⟨hb1.trans (hW.mono (by omega)), cell_of_row W _ 0 _ _ _ h1, cell_of_row W _ 1 _ _ _ h1, cell_of_row W _ 2 _ _ _ h1, cell_of_row W _ 3 _ _ _ h1⟩
  have HG : Hid (∀ W, Below w1.heap.size w1 W → GridA W W.heap.size g A1 A2 A3) := fun W hW => (h.keep (HX.out W hW).1).more (HX.out W hW).1.size
  obtain ⟨_, p0, p1, p2, p3⟩ := HX.out w1 (Below.refl _ _)
  obtain ⟨fb, hfb⟩ : ∃ fb, smallB g = fb := ⟨_, rfl⟩
  have HSM : Hid (∀ W, Below w1.heap.size w1 W → Calls Try.prog 47 #[.agg (gridC g A1 A2 A3 c1 c2 c3)] W fun e w' => e = .returned (.bool fb) ∧ Below W.heap.size W w') := fun W hW => by have := small_any g A1 A2 A3 c1 c2 c3 W (HG.out W hW); rw [hfb] at this; exact this
  have HWK := Lib.hid works_any
  have HB0 : Hid (Below w1.heap.size w1 w1) := Below.refl _ _
  have hl := (HG.out w1 HB0.out)
  have HLN : Hid (g.lines.length ≤ maxLen ∧ g.srcs.length ≤ maxLen ∧ g.users.length ≤ maxLen) := ⟨hl.ls.1, hl.ss.1, hl.us.1⟩
  clear hl
  cases fb
  · unfold gridC at HSM ⊢
    clear hfb hb1 hx1 h
    go_enter Try.func13, Try.ntmps13
    go_wp2_with (first
      | (go_at_call 47; refine (HSM.out _ HB0.out).mono ?_; rintro e w2 ⟨rfl, hb2⟩; have HB2 : Below w1.heap.size w1 w2 := hb2; clear hb2 p0 p1 p2 p3)
      | (go_at_call 16; refine (HWK.out _).mono ?_; rintro e w6 ⟨rfl, hb6⟩; have HB6 : Below w1.heap.size w1 w6 := bel_next HB2 hb6; clear hb6)
      | fail)
    go_ret
    exact ⟨rfl, (HX.out _ HB6).1⟩
  · have hfew := few_far (small_far hfb)
    obtain ⟨L, hlen, hLE, hab⟩ := singles_det g level
    obtain ⟨L2, hlen2, hLE2, hab2⟩ := singles_det g (level - 1)
    obtain ⟨E, hE⟩ : ∃ E, levelG g level = E := ⟨_, rfl⟩
    have HE := Lib.hid hE
    have HCP : Hid (∀ W, Below w1.heap.size w1 W → Calls Try.prog 40 #[.agg (gridC g A1 A2 A3 c1 c2 c3)] W fun e w' => ∃ B1 B2 B3 d1 d2 d3, e = .returned (.agg #[.int .i64 g.nodes, .slice B1 g.lines.length d1, .slice B2 g.srcs.length d2, .slice B3 g.users.length d3]) ∧ GridA w' w'.heap.size g B1 B2 B3 ∧ Below W.heap.size W w') := fun W hW => (copy_any g A1 A2 A3 c1 c2 c3 W (HG.out W hW) hfew).mono fun e w' ⟨B1, B2, B3, d1, d2, d3, he, ho, _, hb⟩ => ⟨B1, B2, B3, d1, d2, d3, he, ho.grid HLN.out.1 HLN.out.2.1 HLN.out.2.2, hb⟩
    have H48 : Hid (∀ W B1 B2 B3 d1 d2 d3, GridA W W.heap.size g B1 B2 B3 → Calls Try.prog 48 #[.agg #[.int .i64 g.nodes, .slice B1 g.lines.length d1, .slice B2 g.srcs.length d2, .slice B3 g.users.length d3], .int .i64 level] W fun e w' => (∃ A c, e = .returned (.tuple #[.slice A L.length c, .int .i64 E]) ∧ FaultsA w' w'.heap.size A L) ∧ Below W.heap.size W w') := fun W B1 B2 B3 d1 d2 d3 hg => (oSingles_any g B1 B2 B3 d1 d2 d3 level W hg).mono fun e w' hp => by rw [← HE.out]; exact hab _ _ _ hp
    have H48b : Hid (∀ W B1 B2 B3 d1 d2 d3, GridA W W.heap.size g B1 B2 B3 → Calls Try.prog 48 #[.agg #[.int .i64 g.nodes, .slice B1 g.lines.length d1, .slice B2 g.srcs.length d2, .slice B3 g.users.length d3], .int .i64 (level - 1)] W fun e w' => (∃ A c, e = .returned (.tuple #[.slice A L2.length c, .int .i64 (levelG g (level - 1))]) ∧ FaultsA w' w'.heap.size A L2) ∧ Below W.heap.size W w') := fun W B1 B2 B3 d1 d2 d3 hg => (oSingles_any g B1 B2 B3 d1 d2 d3 (level - 1) W hg).mono fun e w' hp => hab2 _ _ _ hp
    have H49 : Hid (∀ W, Below w1.heap.size w1 W → Calls Try.prog 49 #[.agg #[.int .i64 g.nodes, .slice A1 g.lines.length c1, .slice A2 g.srcs.length c2, .slice A3 g.users.length c3], .int .i64 level] W fun e w' => (∃ A c, e = .returned (.tuple #[.slice A L.length c, .int .i64 E]) ∧ FaultsA w' w'.heap.size A L) ∧ Below W.heap.size W w') := fun W hW => (rSingles_any g A1 A2 A3 c1 c2 c3 level W (HG.out W hW)).mono fun e w' hp => by rw [← HE.out]; exact hab _ _ _ hp
    have HSF : Hid (∀ W A c B d, FaultsA W W.heap.size A L → FaultsA W W.heap.size B L → Calls Try.prog 50 #[.slice A L.length c, .slice B L.length d] W fun e w' => e = .returned (.bool true) ∧ Below W.heap.size W w') := fun W A c B d h1 h2 => sameF_any A B c d L W h1 h2
    unfold gridC at HSM HCP ⊢
    have HIN : Hid (E = 0 → level ≠ 0 → levelG g (level - 1) = 0 ∧ (1 ≤ level ∧ level ≤ 4) ∧ ∀ x ∈ L, x ∈ L2) := fun h1 h2 => by
      have h3 := level_lower (hE.trans h1) h2
      refine ⟨h3.1, h3.2, fun x hx => ?_⟩
      obtain ⟨n, hg, hL⟩ := hLE (hE.trans h1)
      obtain ⟨n', hg', hL'⟩ := hLE2 h3.1
      obtain rfl := grid_same hg hg'
      rw [hL] at hx
      rw [hL']
      exact singL_lower (by omega) hx
    clear hfb hb1 hx1 h hab hab2 hLE hLE2 hfew hE
    by_cases hz : E = 0
    · subst hz
      by_cases hl0 : level = 0
      · subst hl0
        clear HIN H48b
        go_enter Try.func13, Try.ntmps13
        go_wp2_with (first
        | (go_at_call 47; refine (HSM.out _ HB0.out).mono ?_; rintro e w2 ⟨rfl, hb2⟩; have HB2 : Below w1.heap.size w1 w2 := hb2; clear hb2 p0 p1 p2 p3; obtain ⟨_, p0, p1, p2, p3⟩ := HX.out w2 HB2)
        | (go_at_call 40; with_reducible refine (HCP.out _ HB2).mono ?_; rintro e w3 ⟨B1, B2, B3, d1, d2, d3, rfl, hg3, hb3⟩; have HG3 := Lib.hid hg3; have HB3 : Below w1.heap.size w1 w3 := bel_next HB2 hb3; clear hg3 hb3)
        | (go_at_call 48; with_reducible refine (H48.out _ B1 B2 B3 d1 d2 d3 HG3.out).mono ?_; rintro e w4 ⟨⟨A4, c4, rfl, hi4⟩, hb4⟩; have HI4 := Lib.hid hi4; have HB4 : Below w1.heap.size w1 w4 := bel_next HB3 hb4; clear hi4 hb4 p0 p1 p2 p3; obtain ⟨_, p0, p1, p2, p3⟩ := HX.out w4 HB4)
        | (go_at_call 49; refine (H49.out _ HB4).mono ?_; rintro e w5 ⟨⟨A5, c5, rfl, hi5⟩, hb5⟩; have HI5 := Lib.hid hi5; have HK5 := Lib.hid ((HI4.out.keep hb5).more hb5.size); have HB5 : Below w1.heap.size w1 w5 := bel_next HB4 hb5; clear hi5 hb5)
        | (go_at_call 50; refine (HSF.out _ A4 c4 A5 c5 HK5.out HI5.out).mono ?_; rintro e w6 ⟨rfl, hb6⟩; have HK6 := Lib.hid ((HK5.out.keep hb6).more hb6.size); have HB6 : Below w1.heap.size w1 w6 := bel_next HB5 hb6; clear hb6 p0 p1 p2 p3; obtain ⟨_, p0, p1, p2, p3⟩ := HX.out w6 HB6)
        | (go_at_call 16; refine (HWK.out _).mono ?_; rintro e w7 ⟨rfl, hb7⟩; have HB7 : Below w1.heap.size w1 w7 := bel_next HB6 hb7; clear hb7)
        | fail)
        go_ret
        exact ⟨rfl, (HX.out _ HB7).1⟩
      · obtain ⟨hE2, ⟨hl1, hl4⟩, hsub⟩ := HIN.out rfl hl0
        have HSUB := Lib.hid hsub
        rw [hE2] at H48b
        clear hE2 hsub HIN
        go_enter Try.func13, Try.ntmps13
        go_wp2_with (first
      | (go_at_call 47; refine (HSM.out _ HB0.out).mono ?_; rintro e w2 ⟨rfl, hb2⟩; have HB2 : Below w1.heap.size w1 w2 := hb2; clear hb2 p0 p1 p2 p3; obtain ⟨_, p0, p1, p2, p3⟩ := HX.out w2 HB2)
      | (go_at_call 40; with_reducible refine (HCP.out _ HB2).mono ?_; rintro e w3 ⟨B1, B2, B3, d1, d2, d3, rfl, hg3, hb3⟩; have HG3 := Lib.hid hg3; have HB3 : Below w1.heap.size w1 w3 := bel_next HB2 hb3; clear hg3 hb3)
      | (go_at_call 48; with_reducible refine (H48.out _ B1 B2 B3 d1 d2 d3 HG3.out).mono ?_; rintro e w4 ⟨⟨A4, c4, rfl, hi4⟩, hb4⟩; have HI4 := Lib.hid hi4; have HB4 : Below w1.heap.size w1 w4 := bel_next HB3 hb4; clear hi4 hb4 p0 p1 p2 p3; obtain ⟨_, p0, p1, p2, p3⟩ := HX.out w4 HB4)
      | (go_at_call 49; refine (H49.out _ HB4).mono ?_; rintro e w5 ⟨⟨A5, c5, rfl, hi5⟩, hb5⟩; have HI5 := Lib.hid hi5; have HK5 := Lib.hid ((HI4.out.keep hb5).more hb5.size); have HB5 : Below w1.heap.size w1 w5 := bel_next HB4 hb5; clear hi5 hb5)
      | (go_at_call 50; refine (HSF.out _ A4 c4 A5 c5 HK5.out HI5.out).mono ?_; rintro e w6 ⟨rfl, hb6⟩; have HK6 := Lib.hid ((HK5.out.keep hb6).more hb6.size); have HB6 : Below w1.heap.size w1 w6 := bel_next HB5 hb6; clear hb6 p0 p1 p2 p3; obtain ⟨_, p0, p1, p2, p3⟩ := HX.out w6 HB6)
      | (go_at_call 40; with_reducible refine (HCP.out _ HB6).mono ?_; rintro e w7 ⟨B1', B2', B3', d1', d2', d3', rfl, hg7, hb7⟩; have HG7 := Lib.hid hg7; have HK7 := Lib.hid ((HK6.out.keep hb7).more hb7.size); have HB7 : Below w1.heap.size w1 w7 := bel_next HB6 hb7; clear hg7 hb7)
      | (go_at_call 48; with_reducible refine (H48b.out _ B1' B2' B3' d1' d2' d3' HG7.out).mono ?_; rintro e w8 ⟨⟨A8, c8, rfl, hi8⟩, hb8⟩; have HI8 := Lib.hid hi8; have HK8 := Lib.hid ((HK7.out.keep hb8).more hb8.size); have HB8 : Below w1.heap.size w1 w8 := bel_next HB7 hb8; clear hi8 hb8 p0 p1 p2 p3)
      | fail)
        have HS8 : Hid (∀ W, Below w8.heap.size w8 W → FaultsA W W.heap.size A4 L ∧ FaultsA W W.heap.size A8 L2) := fun W hW => ⟨(HK8.out.keep hW).more hW.size, (HI8.out.keep hW).more hW.size⟩
        have HC0 : Hid (Below w8.heap.size w8 w8) := Below.refl _ _
        have HLL := Lib.hid hlen
        go_loopw [11, 12, 13] (fun vi _ _ wr => ∃ i : Nat, i ≤ L.length ∧ vi = .int .i64 i ∧ Hid (Below w8.heap.size w8 wr)) (fun vi _ _ _ => L.length - (intOf vi).toNat)
        case atStart => exact ⟨0, Nat.zero_le _, rfl, HC0⟩
        case round =>
          clear HC0
          obtain ⟨i, hi, rfl, HB⟩ := hrel
          rename World => wr
          by_cases hlt : i < L.length
          · have HLT := Lib.hid hlt
            obtain ⟨fa, foff, hA4, hfa, _, f0, f1⟩ := fault_one (HS8.out wr HB.out).1 hlt
            subst hA4
            have HM : Hid (L.getD i dFault ∈ L2) := HSUB.out _ (getD_in hlt dFault)
            obtain ⟨⟨x0, x1⟩, hx⟩ : ∃ f, L.getD i dFault = f := ⟨_, rfl⟩
            rw [hx] at f0 f1 HM
            dsimp only at f0 f1
            have HXX := Lib.hid hx
            clear hx
            go_wp2_with fail
            have HC1 : Hid (Below w8.heap.size w8 wr) := HB
            go_loopw [12, 13] (fun vf vk wy => ∃ k : Nat, k ≤ L2.length ∧ vk = .int .i64 k ∧ vf = .bool (hasF L2 x0 x1 k) ∧ Hid (Below w8.heap.size w8 wy)) (fun _ vk _ => L2.length - (intOf vk).toNat)
            case atStart => exact ⟨0, Nat.zero_le _, rfl, rfl, HC1⟩
            case round =>
              clear HC1 HB f0 f1
              obtain ⟨k, hk, rfl, rfl, HB⟩ := hrel
              rename World => wy
              have HSA := HS8.out wy HB.out
              obtain ⟨fa', foff', hA4', hfa', _, f0, f1⟩ := fault_one HSA.1 HLT.out
              obtain ⟨hA4a, hA4b⟩ : fa = fa' ∧ foff = foff' := by simpa using hA4'
              subst hA4a hA4b
              clear hA4' hfa'
              rw [HXX.out] at f0 f1
              dsimp only at f0 f1
              by_cases hkt : k < L2.length
              · have HKT := Lib.hid hkt
                have HST := Lib.hid (hasF_step (x0 := x0) (x1 := x1) hkt)
                obtain ⟨fb, foffb, hA8, hfb, _, h0, h1⟩ := fault_one HSA.2 hkt
                subst hA8
                clear HSA
                obtain ⟨⟨y0, y1⟩, hy⟩ : ∃ f, L2.getD k dFault = f := ⟨_, rfl⟩
                rw [hy] at h0 h1 HST
                dsimp only at h0 h1 HST
                clear hy
                generalize hasF L2 x0 x1 k = fd at *
                cases fd with
                | true =>
                  go_upto_region 18 with fail
                  go_quiet (fail)
                  have HBZ := Lib.hid (bdrw HB.out nq)
                  generalize wy.drewN nq = w5 at *
                  go_wp2_with fail
                  go_roundw
                  case rel => exact ⟨k + 1, HKT.out, by go_num, by rw [HST.out]; simp, HBZ⟩
                  case measure => simp [intOf]; have := HKT.out; omega
                | false =>
                  obtain ⟨q0, hq0⟩ : ∃ q, (y0 == x0) = q := ⟨_, rfl⟩
                  obtain ⟨q1, hq1⟩ : ∃ q, (y1 == x1) = q := ⟨_, rfl⟩
                  rw [hq0, hq1] at HST
                  have hn0 : (y0 != x0) = !q0 := by unfold bne; rw [hq0]
                  have hn1 : (y1 != x1) = !q1 := by unfold bne; rw [hq1]
                  cases q0 <;> cases q1 <;> (
                    go_upto_region 18 with fail
                    go_quiet (fail)
                    have HBZ := Lib.hid (bdrw HB.out nq)
                    generalize wy.drewN nq = w5 at *
                    go_wp2_with fail
                    go_roundw
                    case rel => exact ⟨k + 1, HKT.out, by go_num, by rw [HST.out]; simp, HBZ⟩
                    case measure => simp [intOf]; have := HKT.out; omega)
              · obtain rfl : k = L2.length := by omega
                have HAL : Hid (hasF L2 x0 x1 L2.length = true) := hasF_all (x := ⟨x0, x1⟩) HM.out
                rw [HAL.out]
                go_wp2_with fail
                go_roundw
                case rel => exact ⟨i + 1, by have := HLT.out; omega, by go_num, HB⟩
                case measure => simp [intOf]; have := HLT.out; omega
          · obtain rfl : i = L.length := by omega
            go_wp2_with (first
              | (go_at_call 16; refine (HWK.out _).mono ?_; rintro e w9 ⟨rfl, hb9⟩; have HB9 : Below w8.heap.size w8 w9 := bel_next HB.out hb9; clear hb9)
              | fail)
            go_ret
            exact ⟨rfl, (HX.out _ (HB8.trans (HB9.mono HB8.size))).1⟩
    · clear HIN H48b
      go_enter Try.func13, Try.ntmps13
      go_wp2_with (first
      | (go_at_call 47; refine (HSM.out _ HB0.out).mono ?_; rintro e w2 ⟨rfl, hb2⟩; have HB2 : Below w1.heap.size w1 w2 := hb2; clear hb2 p0 p1 p2 p3; obtain ⟨_, p0, p1, p2, p3⟩ := HX.out w2 HB2)
      | (go_at_call 40; with_reducible refine (HCP.out _ HB2).mono ?_; rintro e w3 ⟨B1, B2, B3, d1, d2, d3, rfl, hg3, hb3⟩; have HG3 := Lib.hid hg3; have HB3 : Below w1.heap.size w1 w3 := bel_next HB2 hb3; clear hg3 hb3)
      | (go_at_call 48; with_reducible refine (H48.out _ B1 B2 B3 d1 d2 d3 HG3.out).mono ?_; rintro e w4 ⟨⟨A4, c4, rfl, hi4⟩, hb4⟩; have HI4 := Lib.hid hi4; have HB4 : Below w1.heap.size w1 w4 := bel_next HB3 hb4; clear hi4 hb4 p0 p1 p2 p3; obtain ⟨_, p0, p1, p2, p3⟩ := HX.out w4 HB4)
      | (go_at_call 49; refine (H49.out _ HB4).mono ?_; rintro e w5 ⟨⟨A5, c5, rfl, hi5⟩, hb5⟩; have HI5 := Lib.hid hi5; have HK5 := Lib.hid ((HI4.out.keep hb5).more hb5.size); have HB5 : Below w1.heap.size w1 w5 := bel_next HB4 hb5; clear hi5 hb5)
      | (go_at_call 50; refine (HSF.out _ A4 c4 A5 c5 HK5.out HI5.out).mono ?_; rintro e w6 ⟨rfl, hb6⟩; have HK6 := Lib.hid ((HK5.out.keep hb6).more hb6.size); have HB6 : Below w1.heap.size w1 w6 := bel_next HB5 hb6; clear hb6 p0 p1 p2 p3; obtain ⟨_, p0, p1, p2, p3⟩ := HX.out w6 HB6)
      | (go_at_call 16; refine (HWK.out _).mono ?_; rintro e w7 ⟨rfl, hb7⟩; have HB7 : Below w1.heap.size w1 w7 := bel_next HB6 hb7; clear hb7)
      | fail)
      go_ret
      exact ⟨rfl, (HX.out _ HB7).1⟩
end Go.Proofs.Ytegclodchhcbaaa
