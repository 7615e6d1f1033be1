/- Walks: the insertion sort of the users' order; the stable sort of at most 20. -/
import Derived.Test.YtegclodchhcbaaaSa
namespace Go.Proofs.Ytegclodchhcbaaa
open Go.RowKit

theorem upd_swap {w : World} {d n j : Nat} {s : List Int} {i : Nat} (h : OwnF w d 3 n (fun t => .int .i64 (layF s i j t))) (hj : 0 < j) (hi : j ≤ i) :
    OwnF ((w.setCell ⟨d, j, none⟩ (.int .i64 (layF s i j (j - 1)))).setCell ⟨d, j - 1, none⟩ (.int .i64 (layF s i j j))) d 3 n (fun t => .int .i64 (layF s i (j - 1) t)) :=
  ((h.set j _).set (j - 1) _).congr fun t _ => by
    rw [← layF_swap (s := s) hj hi (t := t)]
    by_cases h1 : t = j - 1
    · simp [h1]
    · by_cases h2 : t = j
      · subst h2
        rw [if_neg h1, if_pos rfl, if_neg h1, if_pos rfl]
      · rw [if_neg h1, if_neg h2, if_neg h1, if_neg h2]
theorem lay_cells {w : World} {d n j : Nat} {s : List Int} {i : Nat} (h : OwnF w d 3 n (fun t => .int .i64 (layF s i j t))) (hj : 0 < j) (hi : j ≤ i) (hn : i < n) :
    w.cell? ⟨d, j, none⟩ = some (.int .i64 i) ∧ w.cell? ⟨d, j - 1, none⟩ = some (.int .i64 (s.getD (j - 1) 0)) ∧ w.frozen? ⟨d, j, none⟩ = false ∧ w.frozen? ⟨d, j - 1, none⟩ = false ∧
    OwnF ((w.setCell ⟨d, j, none⟩ (.int .i64 (s.getD (j - 1) 0))).setCell ⟨d, j - 1, none⟩ (.int .i64 i)) d 3 n (fun t => .int .i64 (layF s i (j - 1) t)) := by
  have e1 : layF s i j (j - 1) = s.getD (j - 1) 0 := by unfold layF; rw [if_pos (by omega)]
  have e2 : layF s i j j = i := by unfold layF; rw [if_neg (by omega), if_pos rfl]
  have h5 := upd_swap h hj hi
  rw [e1, e2] at h5
  refine ⟨by rw [h.cell (show j < n by omega), e2], by rw [h.cell (show j - 1 < n by omega), e1], h.frozen j, h.frozen (j - 1), h5⟩
set_option maxRecDepth 100000 in
set_option maxHeartbeats 8000000 in
theorem insert_any (g : MGrid) (gb d : Nat) (A3 : Option Addr) (c3 : Nat) (w : World) (hx : w.cell? ⟨gb, 3, none⟩ = some (.slice A3 g.users.length c3)) (hu : UsersA w d A3 g.users) (hgd : gb < d) (hds : d < w.heap.size) (hn : g.users.length ≤ 99) (ho : OwnF w d 3 g.users.length (fun t => .int .i64 (t : Int))) (cap : Nat) :
    Calls Try.prog 105 #[.slice (some ⟨d, 0, none⟩) g.users.length cap, .int .i64 0, .int .i64 g.users.length, .func (.func 88) #[] #[.pointer (some ⟨gb, 0, none⟩)]] w fun e w' => e = .returned (.tuple #[]) ∧ ∃ s, SortI g s g.users.length ∧ OwnF w' d 3 g.users.length (fun t => .int .i64 (s.getD t 0)) ∧ SameBut w d w' := by
  have HV : Hid (∀ W, SameBut w d W → W.cell? ⟨gb, 3, none⟩ = some (.slice A3 g.users.length c3) ∧ UsersA W W.heap.size A3 g.users) := fun W hW => by
    have hb : Below d w W := hW.below (Nat.le_refl _) (by omega)
    exact ⟨(bcell hb gb 3 hgd).trans hx, (hu.below hb (Nat.le_refl _)).more (by have := hW.size; omega)⟩
  have HO := Lib.hid ho
  have HSB := Lib.hid (SameBut.refl w d)
  have HL : Hid (∀ s i j W, SortI g s i → j < i → i < g.users.length → SameBut w d W → ∀ v, cmpV (userAt g (s.getD j 0)).level (userAt g i).level = v → Calls Try.prog 88 #[.int .i64 i, .int .i64 (s.getD j 0), .pointer (some ⟨gb, 0, none⟩)] W fun e w' => e = .returned (.int .i64 v) ∧ ∃ m, w' = W.drewN m) := fun s i j W hs hj hi hW v hv => by
    obtain ⟨h1, h2⟩ := HV.out W hW
    have hm : s.getD j 0 ∈ s := by
      have := hs.len
      rw [List.getD_eq_getElem?_getD, List.getElem?_eq_getElem (by omega)]; exact List.getElem_mem _
    have hb := (hs.mem _).1 hm
    obtain ⟨y, hy⟩ : ∃ y : Nat, s.getD j 0 = (y : Int) := ⟨(s.getD j 0).toNat, by omega⟩
    rw [hy] at hv hb ⊢
    unfold userAt at hv
    rw [Int.toNat_natCast, Int.toNat_natCast] at hv
    exact order_any g gb A3 c3 i y W h1 h2 hi (by omega) hv
  clear hx hu ho
  generalize hN : g.users.length = n at *
  have HN := Lib.hid hN
  clear hN
  go_enter Try.func105, Try.ntmps105
  go_wp2_with fail
  go_loopw [8] (fun vi wr => ∃ (i : Nat) (s : List Int), vi = .int .i64 i ∧ 1 ≤ i ∧ (i ≤ n ∨ i = 1) ∧ Hid (SortI g s i) ∧ Hid (OwnF wr d 3 n (fun t => .int .i64 (laidF s i t))) ∧ Hid (SameBut w d wr)) (fun vi _ => n - (intOf vi).toNat)
  case atStart => exact ⟨1, [0], rfl, by omega, .inr rfl, SortI.one g, HO.out.congr (fun t _ => by unfold laidF; by_cases h : t < 1 <;> simp [h]; omega), HSB.out⟩
  case round =>
    obtain ⟨i, s, rfl, hi1, hi2, HS, HW, HB⟩ := hrel
    rename World => wr
    clear HO HSB
    by_cases hlt : i < n
    · have HLT := Lib.hid hlt
      have HI1 := Lib.hid hi1
      have HW0 : Hid (OwnF wr d 3 n (fun t => .int .i64 (layF s i i t))) := HW.out.congr fun t _ => by rw [layF_start]
      have HP0 : Hid (PassI g s i i) := fun t h1 h2 => by omega
      clear hi2
      go_wp2_with fail
      go_loopw [9] (fun vj wz => ∃ j : Nat, j ≤ i ∧ vj = .int .i64 j ∧ Hid (OwnF wz d 3 n (fun t => .int .i64 (layF s i j t))) ∧ Hid (SameBut w d wz) ∧ Hid (PassI g s i j)) (fun vj _ => (intOf vj).toNat)
      case atStart => exact ⟨i, Nat.le_refl _, rfl, HW0, HB, HP0⟩
      case round =>
        obtain ⟨j, hji, rfl, HZ, HBZ, HP⟩ := hrel
        rename World => wz
        clear HW HB HW0 HP0
        have HJI := Lib.hid hji
        by_cases hj : 0 < j
        · have HJ := Lib.hid hj
          obtain ⟨hxj, hxk, hfj, hfk, _⟩ := lay_cells HZ.out hj hji hlt
          obtain ⟨kl1, kl2⟩ := key_less HS.out (show i < 100 by have := HLT.out; omega) (show j - 1 < i by omega)
          obtain ⟨v, hv⟩ : ∃ v, cmpV (userAt g (s.getD (j - 1) 0)).level (userAt g i).level = v := ⟨_, rfl⟩
          have hvn := cmpV_neg (userAt g (s.getD (j - 1) 0)).level (userAt g i).level
          rw [hv] at hvn
          have HC : Hid (∀ n : Nat, Calls Try.prog 88 #[.int .i64 i, .int .i64 (s.getD (j - 1) 0), .pointer (some ⟨gb, 0, none⟩)] (wz.drewN n) fun e w' => e = .returned (.int .i64 v) ∧ ∃ m, w' = wz.drewN m) := fun n => (HL.out s i (j - 1) (wz.drewN n) HS.out (by omega) HLT.out (HBZ.out.drewN n) v hv).mono fun _ _ ⟨he, m, hm⟩ => ⟨he, n + m, by rw [hm, World.drewN_drewN]⟩
          have hcast : ((j : Int) - 1) = ((j - 1 : Nat) : Int) := by omega
          clear hv
          by_cases hneg : v < 0
          · have hd : decide (v < 0) = true := decide_eq_true hneg
            have HK : Hid (keyU g i < keyU g (s.getD (j - 1) 0)) := kl1.1 (hvn.1 hneg)
            clear kl1 kl2 hvn hneg
            have HY : Hid (∀ W, OwnF W d 3 n (fun t => .int .i64 (layF s i j t)) → W.cell? ⟨d, j, none⟩ = some (.int .i64 i) ∧ W.cell? ⟨d, j - 1, none⟩ = some (.int .i64 (s.getD (j - 1) 0)) ∧ W.frozen? ⟨d, j, none⟩ = false ∧ W.frozen? ⟨d, j - 1, none⟩ = false ∧ OwnF ((W.setCell ⟨d, j, none⟩ (.int .i64 (s.getD (j - 1) 0))).setCell ⟨d, j - 1, none⟩ (.int .i64 i)) d 3 n (fun t => .int .i64 (layF s i (j - 1) t))) := fun W hW => lay_cells hW hj hji hlt
            have HP1 : Hid (PassI g s i (j - 1)) := HP.out.step HK.out hj
            generalize s.getD (j - 1) 0 = y at *
            go_upto_region 4 with fail
            go_quiet ((go_at_call 88; exact HC.out _))
            have HZ5 : Hid (OwnF (wz.drewN nq) d 3 n (fun t => .int .i64 (layF s i j t))) := HZ.out.drewN nq
            have HB5 : Hid (SameBut w d (wz.drewN nq)) := HBZ.out.drewN nq
            clear hxj hxk hfj hfk
            clear HC
            generalize wz.drewN nq = w5 at *
            obtain ⟨hxj, hxk, hfj, hfk, hset⟩ := HY.out w5 HZ5.out
            have HSET := Lib.hid hset
            obtain ⟨v3, hy3⟩ := cell?_setCell_some (w := w5) (p := ⟨d, j, none⟩) (x := .int .i64 y) (q := ⟨d, j - 1, none⟩) hxk
            clear hset
            go_upto_region 6 with fail
            go_region
            go_wp2_with fail
            go_roundw
            case rel => exact ⟨j - 1, by omega, rfl, HSET.out.drewN 1, ((HB5.out.put _ _).put _ _).drewN 1, HP1⟩
            case measure => simp [intOf]; omega
          · have hd : decide (v < 0) = false := decide_eq_false hneg
            have HK : Hid (keyU g (s.getD (j - 1) 0) < keyU g i) := kl2.1 (fun h => hneg (hvn.2 h))
            clear kl1 kl2 hvn hneg
            have HFIN : Hid (SortI g (insAt s i j) (i + 1)) := HS.out.put hji HP.out (.inr HK.out)
            generalize s.getD (j - 1) 0 = y at *
            go_upto_region 4 with fail
            go_quiet ((go_at_call 88; exact HC.out _))
            have HZ5 : Hid (OwnF (wz.drewN nq) d 3 n (fun t => .int .i64 (laidF (insAt s i j) (i + 1) t))) := (HZ.out.drewN nq).congr fun t _ => by rw [insAt_get HS.out.len hji]
            have HB5 : Hid (SameBut w d (wz.drewN nq)) := HBZ.out.drewN nq
            clear hxj hxk hfj hfk
            clear HC
            generalize wz.drewN nq = w5 at *
            go_wp2_with fail
            go_roundw
            case rel => exact ⟨i + 1, insAt s i j, by go_num, by omega, .inl HLT.out, HFIN, HZ5, HB5⟩
            case measure => simp [intOf]; have := HLT.out; omega
        · obtain rfl : j = 0 := by omega
          have HFIN : Hid (SortI g (insAt s i 0) (i + 1)) := HS.out.put hji HP.out (.inl rfl)
          go_upto_region 4 with fail
          go_quiet (fail)
          have HZ5 : Hid (OwnF (wz.drewN nq) d 3 n (fun t => .int .i64 (laidF (insAt s i 0) (i + 1) t))) := (HZ.out.drewN nq).congr fun t _ => by rw [insAt_get HS.out.len hji]
          have HB5 : Hid (SameBut w d (wz.drewN nq)) := HBZ.out.drewN nq
          generalize wz.drewN nq = w5 at *
          go_wp2_with fail
          go_roundw
          case rel => exact ⟨i + 1, insAt s i 0, by go_num, by omega, .inl HLT.out, HFIN, HZ5, HB5⟩
          case measure => simp [intOf]; have := HLT.out; omega
    · have HE : Hid (∃ s', SortI g s' n ∧ ∀ t, t < n → laidF s i t = s'.getD t 0) := by
        by_cases h0 : n = 0
        · exact ⟨[], by rw [h0]; exact SortI.nil g, fun t ht => by omega⟩
        · obtain rfl : i = n := by omega
          exact ⟨s, HS.out, fun t ht => by unfold laidF; rw [if_pos ht]⟩
      go_wp2_with fail
      go_end0
      obtain ⟨s', h1, h2⟩ := HE.out
      exact ⟨rfl, s', h1, HW.out.congr fun t ht => by rw [h2 t ht], HB.out⟩
set_option maxRecDepth 100000 in
theorem insert_none (D : Option Addr) (n cap : Nat) (hn : n ≤ 100) (f : Value) (w : World) : Calls Try.prog 105 #[.slice D n cap, .int .i64 n, .int .i64 n, f] w fun e w' => e = .returned (.tuple #[]) ∧ w = w' := by
  go_enter Try.func105, Try.ntmps105
  go_wp2_with fail
  go_loopw [8] (fun vi wr => vi = .int .i64 ((n : Int) + 1) ∧ wr = w) (fun _ _ => 0)
  case atStart => exact ⟨rfl, rfl⟩
  case round =>
    obtain ⟨rfl, rfl⟩ := hrel
    go_wp2_with fail
    go_end0
    exact ⟨rfl, rfl⟩
/-- the order in memory is the order of Served -/
def RankedA (g : MGrid) (d : Nat) (w w' : World) : Prop := OwnF w' d 3 g.users.length (fun t => .int .i64 ((rankO g).getD t 0)) ∧ (rankO g).length = g.users.length ∧ SameBut w d w'
theorem ranked_of {g : MGrid} {n : Nat} (hg : GridOk g n) {d : Nat} {w w' : World} {s : List Int} (hs : SortI g s g.users.length) (ho : OwnF w' d 3 g.users.length (fun t => .int .i64 (s.getD t 0))) (hb : SameBut w d w') : RankedA g d w w' := by
  have e := rankO_of hg hs.srt hs.mem
  unfold RankedA
  rw [← e]
  exact ⟨ho, hs.len, hb⟩
set_option maxRecDepth 100000 in
set_option maxHeartbeats 8000000 in
theorem stable_any (g : MGrid) {nn : Nat} (hg : GridOk g nn) (gb d : Nat) (A3 : Option Addr) (c3 : Nat) (w : World) (hx : w.cell? ⟨gb, 3, none⟩ = some (.slice A3 g.users.length c3)) (hu : UsersA w d A3 g.users) (hgd : gb < d) (hds : d < w.heap.size) (ho : OwnF w d 3 g.users.length (fun t => .int .i64 (t : Int))) (cap : Nat) :
    Calls Try.prog 102 #[.slice (some ⟨d, 0, none⟩) g.users.length cap, .int .i64 g.users.length, .func (.func 88) #[] #[.pointer (some ⟨gb, 0, none⟩)]] w fun e w' => e = .returned (.tuple #[]) ∧ RankedA g d w w' := by
  have hn := hg.nu
  have HI : Hid (Calls Try.prog 105 #[.slice (some ⟨d, 0, none⟩) g.users.length cap, .int .i64 0, .int .i64 g.users.length, .func (.func 88) #[] #[.pointer (some ⟨gb, 0, none⟩)]] w fun e w' => e = .returned (.tuple #[]) ∧ RankedA g d w w') := (insert_any g gb d A3 c3 w hx hu hgd hds (by omega) ho cap).mono fun _ _ ⟨he, s, h1, h2, h3⟩ => ⟨he, ranked_of hg h1 h2 h3⟩
  have HN : Hid (∀ W, Calls Try.prog 105 #[.slice (some ⟨d, 0, none⟩) g.users.length cap, .int .i64 g.users.length, .int .i64 g.users.length, .func (.func 88) #[] #[.pointer (some ⟨gb, 0, none⟩)]] W fun e w' => e = .returned (.tuple #[]) ∧ W = w') := fun W => insert_none _ _ _ (by omega) _ W
  clear hx hu hgd hds ho
  generalize hN : RankedA g d w = P at *
  clear hN
  generalize hN : g.users.length = n at *
  clear hN hg
  by_cases h20 : n = 20
  · have H20 : Hid (∀ W, Calls Try.prog 105 #[.slice (some ⟨d, 0, none⟩) n cap, .int .i64 20, .int .i64 n, .func (.func 88) #[] #[.pointer (some ⟨gb, 0, none⟩)]] W fun e w' => e = .returned (.tuple #[]) ∧ W = w') := by subst h20; exact HN.out
    have HI20 : Hid (Calls Try.prog 105 #[.slice (some ⟨d, 0, none⟩) n cap, .int .i64 0, .int .i64 20, .func (.func 88) #[] #[.pointer (some ⟨gb, 0, none⟩)]] w fun e w' => e = .returned (.tuple #[]) ∧ P w') := by subst h20; exact HI.out
    clear HI HN
    have hge : 20 ≤ n := by omega
    clear h20
    go_enter Try.func102, Try.ntmps102
    go_wp2_with fail
    go_loopw [7, 8] (fun va vb wr => (va = .int .i64 0 ∧ vb = .int .i64 20 ∧ wr = w) ∨ (va = .int .i64 20 ∧ vb = .int .i64 40 ∧ P wr)) (fun va _ _ => 40 - (intOf va).toNat)
    case atStart => exact .inl ⟨rfl, rfl, rfl⟩
    case round =>
      rcases hrel with ⟨rfl, rfl, rfl⟩ | ⟨rfl, rfl, hP⟩
      · go_wp2_with (go_at_call 105; refine HI20.out.mono ?_; rintro e w2 ⟨rfl, hP⟩)
        go_roundw
        case rel => exact .inr ⟨rfl, rfl, hP⟩
        case measure => simp [intOf]
      · go_wp2_with (go_at_call 105; refine (H20.out _).mono ?_; rintro e w2 ⟨rfl, rfl⟩)
        rename World => wq
        go_loopw [6] (fun v6 wr => v6 = .int .i64 20 ∧ wr = wq) (fun _ _ => 0)
        case atStart => exact ⟨rfl, rfl⟩
        case round =>
          obtain ⟨rfl, rfl⟩ := hrel
          go_wp2_with fail
          go_end0
          exact ⟨rfl, hP⟩
  · have hlt : n < 20 := by omega
    clear h20
    go_enter Try.func102, Try.ntmps102
    go_wp2_with fail
    go_loopw [7, 8] (fun va vb wr => va = .int .i64 0 ∧ vb = .int .i64 20 ∧ wr = w) (fun va _ _ => 0)
    case atStart => exact ⟨rfl, rfl, rfl⟩
    case round =>
      obtain ⟨rfl, rfl, rfl⟩ := hrel
      go_wp2_with (go_at_call 105; refine HI.out.mono ?_; rintro e w2 ⟨rfl, hP⟩)
      go_loopw [6] (fun v6 wr => v6 = .int .i64 20 ∧ wr = w2) (fun _ _ => 0)
      case atStart => exact ⟨rfl, rfl⟩
      case round =>
        obtain ⟨rfl, rfl⟩ := hrel
        go_wp2_with fail
        go_end0
        exact ⟨rfl, hP⟩
set_option maxRecDepth 100000 in
theorem sort_any (g : MGrid) {nn : Nat} (hg : GridOk g nn) (gb d : Nat) (A3 : Option Addr) (c3 : Nat) (w : World) (hx : w.cell? ⟨gb, 3, none⟩ = some (.slice A3 g.users.length c3)) (hu : UsersA w d A3 g.users) (hgd : gb < d) (hds : d < w.heap.size) (ho : OwnF w d 3 g.users.length (fun t => .int .i64 (t : Int))) (cap : Nat) :
    Calls Try.prog 87 #[.slice (some ⟨d, 0, none⟩) g.users.length cap, .func (.func 88) #[] #[.pointer (some ⟨gb, 0, none⟩)]] w fun e w' => e = .returned (.tuple #[]) ∧ RankedA g d w w' := by
  have HC := Lib.hid (stable_any g hg gb d A3 c3 w hx hu hgd hds ho cap)
  clear hx hu ho hg
  go_enter Try.func87, Try.ntmps87
  go_wp2_with (go_at_call 102; refine HC.out.mono ?_; rintro e w2 ⟨rfl, hP⟩)
  go_end0
  exact ⟨rfl, hP⟩
end Go.Proofs.Ytegclodchhcbaaa
