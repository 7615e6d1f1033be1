/- The plain law and the walk of ignitionlaw04.BusBusy. -/
import Derived.Test.YtlbbhlkbhegegaaPl3
import Derived.Test.YtlbbhlkbhegegaaPl4
import Derived.Test.YtlbbhlkbhegegaaW2
namespace Go.Proofs.Ytlbbhlkbhegegaa
open Go.RowKit

theorem playGo_bd {l : List MFrame} {rs : List MGate} {B : Int} (hS : ∀ k, k < rs.length → szP l rs k ≤ 1000) (hA : ∀ k, k < rs.length → (relAt rs k).delay ≤ 1000000) : ∀ (u : Nat) (now : Int) (E : Nat → Int), now + 1000 * u ≤ B → 1000000 + 1000 * u ≤ B → (∀ k, k < rs.length → E k ≤ B) → ∀ k, k < rs.length → playGo l rs u now E k ≤ B
  | 0, _, E, _, _, hE, k, hk => hE k hk
  | u + 1, now, E, h1, h2, hE, k, hk => by
    have hgo : ∀ t i, t + 1000 * (u + 1 : Nat) ≤ B → i < rs.length → playGo l rs u (t + szP l rs i) (updE E i (t + szP l rs i)) k ≤ B := fun t i ht hi => by
      have hs := hS i hi
      refine playGo_bd hS hA u _ _ (by omega) (by omega) (fun j hj => ?_) k hk
      unfold updE
      by_cases e : j = i
      · rw [if_pos e]; omega
      · rw [if_neg e]; exact hE j hj
    rcases hp : pickTo l rs E now rs.length with _ | i
    · rcases hs : soonTo rs E now rs.length with _ | s
      · rw [playGo_end hp hs]; exact hE k hk
      · rw [playGo_wait hp hs]
        obtain ⟨j, hj, _, hd⟩ := soonTo_some hs
        have := hA j hj
        rcases hp2 : pickTo l rs E s rs.length with _ | i
        · exact absurd hp2 (pick_soon hs)
        · rw [playGo_some hp2]
          exact hgo s i (by omega) (pickTo_some hp2).1
    · rw [playGo_some hp]
      exact hgo now i (by omega) (pickTo_some hp).1
theorem play_bd {l : List MFrame} {rs : List MGate} (h : relS l rs = 0) {k : Nat} (hk : k < rs.length) : playS l rs k ≤ 2000000 := by
  obtain ⟨hv, h5, hR⟩ := relS_parts h
  refine playGo_bd (fun k hk => (szP_bd h hk).2) (fun k hk => ?_) rs.length 0 _ (by omega) (by omega) (fun _ _ => by omega) k hk
  have hk' : rs[k]? = some rs[k] := List.getElem?_eq_getElem hk
  rw [relAt_of hk']
  exact (relsB_at hR hk').2.2
theorem relS_four (l : List MFrame) (rs : List MGate) : relS l rs = 0 ∨ relS l rs = 40 ∨ relS l rs = 2 ∨ relS l rs = 1 := by
  unfold relS
  by_cases h1 : framesB l = false
  · rw [if_pos h1]; omega
  · rw [if_neg h1]
    by_cases h2 : 500 < rs.length
    · rw [if_pos h2]; omega
    · rw [if_neg h2]
      by_cases h3 : relsB l.length rs = true
      · rw [if_pos h3]; omega
      · rw [if_neg h3]; omega
/-- a release is sent when it is there, or behind another -/
theorem PlayOk.follows {l : List MFrame} {rs : List MGate} {E : Nat → Int} (h : PlayOk l rs E) (hS : ∀ k, k < rs.length → 1 ≤ szP l rs k) {i : Nat} (hi : i < rs.length) (hne : (relAt rs i).delay ≠ E i - szP l rs i) : ∃ j, j < rs.length ∧ j ≠ i ∧ E j = E i - szP l rs i := by
  have h1 := h.at_ i hi
  obtain ⟨j, hj, h2, h3⟩ := h.busy (E i - szP l rs i - 1) i hi (by omega) (by omega)
  have hji : j ≠ i := fun e => by subst e; omega
  have hsi := hS i hi
  refine ⟨j, hj, hji, ?_⟩
  rcases Int.lt_or_le (E i - szP l rs i) (E j) with h4 | h4
  · exact (h.apart i j hi hj (fun e => hji e.symm) h4 (by omega)).elim
  · omega
/-- what Play gives, as Busy reads it -/
theorem play_b (A : Option Addr) (cap : Nat) (l : List MFrame) (G : Option Addr) (gcap : Nat) (rs : List MGate) (w : World) (h : FramesA w w.heap.size A l) (hcap : l.length ≤ cap) (hG : GatesA w w.heap.size G rs) (hm : rs.length ≤ maxLen) (hz : relS l rs = 0) :
    Calls Try.prog 36 #[.slice A l.length cap, .slice G rs.length gcap] w fun e w' => ∃ X xk x, e = .returned (.tuple #[.slice X rs.length xk, .int .i64 0]) ∧ IntsA w' w'.heap.size X x ∧ (x.length = rs.length ∧ ∀ k, k < rs.length → x.getD k 0 = playS l rs k) ∧ Below w.heap.size w w' := by
  refine (play_any A cap l G gcap rs w h hcap hG hm).mono ?_
  rintro e w' ⟨hb, X, xk, rfl, _, hX⟩
  rw [hz]
  have hL : playL l rs = (List.range rs.length).map (playS l rs) := by unfold playL; rw [if_pos hz]
  have hll : (playL l rs).length = rs.length := by rw [hL]; simp
  refine ⟨X, xk, _, ?_, hX, ⟨hll, fun k hk => ?_⟩, hb⟩
  · rw [hll]
  · rw [hL, List.getD_eq_getElem?_getD, List.getElem?_map, List.getElem?_range hk]; rfl

/-- what the law reads of release k: frame, time, end, size, rank -/
structure BusyAt (l : List MFrame) (rs : List MGate) (w0 : World) (A G X : Option Addr) (k : Nat) (fr at_ en sz rk : Int) : Prop where
  cells : ∃ gb go fb fo xb xo, G = some ⟨gb, go, none⟩ ∧ A = some ⟨fb, fo, none⟩ ∧ X = some ⟨xb, xo, none⟩ ∧ ∀ w2, Below w0.heap.size w0 w2 →
    w2.cell? ⟨gb, go + k * 2, none⟩ = some (.int .i64 fr) ∧ w2.cell? ⟨gb, go + k * 2 + 1, none⟩ = some (.int .i64 at_) ∧ w2.cell? ⟨xb, xo + k, none⟩ = some (.int .i64 en) ∧
    w2.cell? ⟨fb, fo + fr.toNat * 5, none⟩ = some (.int .i64 sz) ∧ w2.cell? ⟨fb, fo + fr.toNat * 5 + 4, none⟩ = some (.int .i64 rk)
  frb : 0 ≤ fr ∧ fr < l.length
  ens : en = playS l rs k
  ats : at_ = (relAt rs k).delay
  szs : sz = szP l rs k
  at0 : 0 ≤ at_
  rks : rk = (l.getD fr.toNat ⟨0, 0, 0, 0, 0⟩).rank ∧ fr = (relAt rs k).rate
theorem busyAt_of {l : List MFrame} {rs : List MGate} {w0 : World} {A G X : Option Addr} {x : List Int} {k : Nat} (hA : FramesA w0 w0.heap.size A l) (hG : GatesA w0 w0.heap.size G rs) (hX : IntsA w0 w0.heap.size X x) (hx : x.length = rs.length ∧ ∀ k, k < rs.length → x.getD k 0 = playS l rs k) (hR : relsB l.length rs = true) (hk : k < rs.length) :
    ∃ fr at_ en sz rk, BusyAt l rs w0 A G X k fr at_ en sz rk := by
  obtain ⟨r, gb, go, hr, rfl, hgb, c0, c1⟩ := hG.at_ hk
  have hrr := relsB_at hR hr
  obtain ⟨xb, xo, rfl, hxb, c2⟩ := hX.at_ (k := k) (by omega)
  obtain ⟨f, fb, fo, hf, rfl, hfb, d0, _, _, _, d4⟩ := hA.at_ (k := r.rate.toNat) (by omega)
  rw [hx.2 k hk] at c2
  refine ⟨r.rate, r.delay, playS l rs k, f.size, f.rank, ⟨gb, go, fb, fo, xb, xo, rfl, rfl, rfl, fun w2 hb => ⟨(bcell hb _ _ hgb).trans c0, (bcell hb _ _ hgb).trans c1, (bcell hb _ _ hxb).trans c2, (bcell hb _ _ hfb).trans d0, (bcell hb _ _ hfb).trans d4⟩⟩, hrr.1, rfl, ?_, ?_, hrr.2.1, ?_, ?_⟩
  · rw [relAt_of hr]
  · unfold szP sizeOf_
    rw [relAt_of hr, List.getD_eq_getElem?_getD, hf]; rfl
  · rw [List.getD_eq_getElem?_getD, hf]; rfl
  · rw [relAt_of hr]

set_option maxRecDepth 100000 in
set_option maxHeartbeats 4000000 in
theorem busBusy_any (A : Option Addr) (cap : Nat) (l : List MFrame) (G : Option Addr) (gcap : Nat) (rs : List MGate) (w : World) (h : FramesA w w.heap.size A l) (hcap : l.length ≤ cap) (hG : GatesA w w.heap.size G rs) (hm : rs.length ≤ maxLen) :
    Calls Try.prog 10 #[.slice A l.length cap, .slice G rs.length gcap] w fun e w' => e = .returned (.bool true) ∧ Below w.heap.size w w' := by
  have hmm := hm
  have hlen := h.1
  unfold maxLen at hmm hlen
  by_cases h60 : 60 < rs.length
  · go_enter Try.func10, Try.ntmps10
    go_wp2_with fail
    refine (works_any w).mono ?_
    rintro e w10 ⟨rfl, hb10⟩
    go_wp2_with fail
    go_ret
    exact ⟨rfl, hb10⟩
  · by_cases hz : relS l rs = 0
    · have HPL := Lib.hid (play_b A cap l G gcap rs w h hcap hG hm hz)
      have HO := Lib.hid (play_ok hz)
      have HS : Hid (∀ k, k < rs.length → 1 ≤ szP l rs k ∧ szP l rs k ≤ 1000) := fun k hk => szP_bd hz hk
      have HB : Hid (∀ k, k < rs.length → playS l rs k ≤ 2000000) := fun k hk => play_bd hz hk
      have HV := Lib.hid (relS_parts hz)
      have hl := (framesB_parts HV.out.1).1
      clear hz hm
      go_enter Try.func10, Try.ntmps10
      go_wp2_with fail
      refine HPL.out.mono ?_
      rintro e w0 ⟨X, xk, x, rfl, hX, hx, hb0⟩
      have HAT : Hid (∀ k, k < rs.length → ∃ fr at_ en sz rk, BusyAt l rs w0 A G X k fr at_ en sz rk) := fun k hk => busyAt_of ((h.keep hb0).more hb0.size) ((SlA.below hG hb0 (Nat.le_refl _)).more hb0.size) hX hx HV.out.2.2 hk
      have hsz0 := hb0.size
      clear HPL hX hx hG h
      go_wp2_with fail
      go_loopw [7] (fun v wr => ∃ i : Nat, i ≤ rs.length ∧ v = .int .i64 i ∧ Below w0.heap.size w0 wr) (fun v _ => rs.length - (intOf v).toNat)
      case atStart => exact ⟨0, Nat.zero_le _, rfl, Below.refl _ _⟩
      case round =>
        obtain ⟨i, hi, rfl, hbi⟩ := hrel
        by_cases hlt : i < rs.length
        · obtain ⟨fi, ai, ei, si, ki, HI⟩ := HAT.out i hlt
          obtain ⟨gb, go, fb, fo, xb, xo, rfl, rfl, rfl, hcl⟩ := HI.cells
          have hfi := HI.frb
          have hsi := HS.out i hlt
          have hei := HB.out i hlt
          have hai := HO.out.1.at_ i hlt
          rw [← HI.szs] at hsi
          rw [← HI.ens] at hei
          rw [← HI.ens, ← HI.ats, ← HI.szs] at hai
          have HCI := Lib.hid hcl
          have HII := Lib.hid HI
          clear hcl HI
          obtain ⟨c0, c1, c2, c3, c4⟩ := HCI.out wr hbi
          have hai0 := HII.out.at0
          have es : IntKind.i64.wrap (ei - si) = ei - si := IntWalk.i64_in _ (by omega)
          go_wp2_with fail
          go_quiet (fail)
          have hbq := bdrw hbi nq
          generalize wr.drewN nq = w2 at *
          clear c0 c1 c2 c3 c4 hbi es
          obtain ⟨c0, c1, c2, c3, c4⟩ := HCI.out w2 hbq
          generalize hbi : ei - si = bi at *
          have HBI := Lib.hid hbi
          have hbe : bi < ei := by omega
          clear hbi
          have hge : ai ≤ bi := hai
          have hnl : decide (bi < ai) = false := decide_eq_false (by omega)
          obtain ⟨fl, hfl⟩ : ∃ fl : Bool, (bi == ai) = fl := ⟨_, rfl⟩
          go_wp2_with fail
          go_loopw [9, 10] (fun vf vj wr => ∃ (f : Bool) (j : Nat), j ≤ rs.length ∧ vf = .bool f ∧ vj = .int .i64 j ∧ Hid (f = false → bi ≠ ai ∧ ∀ q, q < j → q ≠ i → playS l rs q ≠ bi) ∧ Below w0.heap.size w0 wr) (fun _ vj _ => rs.length - (intOf vj).toNat)
          case atStart => exact ⟨fl, 0, Nat.zero_le _, rfl, rfl, fun e => ⟨fun e2 => by rw [← hfl, e2] at e; simp at e, fun q hq => by omega⟩, hbq⟩
          case round =>
            obtain ⟨f, j, hj, rfl, rfl, HF, hbj⟩ := hrel
            clear hbq c0 c1 c2 c3 c4
            obtain ⟨c0, c1, c2, c3, c4⟩ := HCI.out wr hbj
            by_cases hlj : j < rs.length
            · obtain ⟨fj, aj, ej, sj, kj, HJ⟩ := HAT.out j hlj
              obtain ⟨gb', go', fb', fo', xb', xo', e1, e2, e3, hcl⟩ := HJ.cells
              injection e1 with e1; injection e1 with e11 e12; subst e11; subst e12
              injection e2 with e2; injection e2 with e21 e22; subst e21; subst e22
              injection e3 with e3; injection e3 with e31 e32; subst e31; subst e32
              have hfj := HJ.frb
              have hsj := HS.out j hlj
              have hej := HB.out j hlj
              have haj := HO.out.1.at_ j hlj
              have haj0 := HJ.at0
              rw [← HJ.szs] at hsj
              rw [← HJ.ens] at hej
              rw [← HJ.ens, ← HJ.ats, ← HJ.szs] at haj
              have HCJ := Lib.hid hcl
              have HJJ := Lib.hid HJ
              clear hcl HJ
              obtain ⟨d0, d1, d2, d3, d4⟩ := HCJ.out wr hbj
              have es : IntKind.i64.wrap (ej - sj) = ej - sj := IntWalk.i64_in _ (by omega)
              have hcase : (j = i) ∨ (j ≠ i ∧ ej ≤ bi) ∨ (j ≠ i ∧ ei ≤ ej - sj ∧ bi < aj) ∨ (j ≠ i ∧ ei ≤ ej - sj ∧ aj ≤ bi ∧ ¬ kj < ki) := by
                by_cases e : j = i
                · exact Or.inl e
                · by_cases e1 : ej ≤ bi
                  · exact Or.inr (Or.inl ⟨e, e1⟩)
                  · have hap := HO.out.1.apart i j hlt hlj (fun e' => e e'.symm)
                    rw [← HII.out.ens, ← HII.out.szs, ← HJJ.out.ens, ← HJJ.out.szs, HBI.out] at hap
                    have hge2 : ei ≤ ej - sj := by
                      rcases Int.lt_or_le (ej - sj) ei with h1 | h1
                      · exact (hap (by omega) h1).elim
                      · exact h1
                    by_cases e2 : aj ≤ bi
                    · refine Or.inr (Or.inr (Or.inr ⟨e, hge2, e2, fun e3 => ?_⟩))
                      have hbest := (HO.out.1.best i j hlt hlj (by rw [← HII.out.ens, ← HII.out.szs, ← HJJ.out.ats, HBI.out]; exact e2) (by rw [← HII.out.ens, ← HII.out.szs, ← HJJ.out.ens, ← HJJ.out.szs, HBI.out]; omega)).1
                      obtain ⟨ra, rb, e4, e5, e6⟩ := before_key HV.out.1 (a := relAt rs j) (b := relAt rs i) (by rw [← HJJ.out.rks.2]; exact hfj) (by rw [← HII.out.rks.2]; exact hfi)
                      rw [← HJJ.out.rks.2, ← HJJ.out.rks.1] at e5
                      rw [← HII.out.rks.2, ← HII.out.rks.1] at e6
                      rw [e4, e5, e6] at hbest
                      have := of_decide_eq_false hbest
                      omega
                    · exact Or.inr (Or.inr (Or.inl ⟨e, hge2, by omega⟩))
              rcases hcase with hji | ⟨hji, h1⟩ | ⟨hji, h1, h2⟩ | ⟨hji, h1, h2, h3⟩
              · subst hji
                rcases f with _ | _
                all_goals
                  go_wp2_with fail
                  go_quiet (fail)
                  have hbq := bdrw hbj nq
                  generalize wr.drewN nq = w2 at *
                  clear c0 c1 c2 c3 c4 d0 d1 d2 d3 d4 hbj es
                  obtain ⟨c0, c1, c2, c3, c4⟩ := HCI.out w2 hbq
                  obtain ⟨d0, d1, d2, d3, d4⟩ := HCJ.out w2 hbq
                  go_wp2_with fail
                  go_quiet (fail)
                  have hbz := bdrw hbq nq
                  generalize w2.drewN nq = w3 at *
                  clear c0 c1 c2 c3 c4 d0 d1 d2 d3 d4 hbq
                  go_wp2_with fail
                  go_roundw
                  case rel => exact ⟨_, j + 1, by omega, rfl, by go_num, fun e => ⟨(HF.out (by first | exact e | trivial | exact absurd e (by simp))).1, fun q hq hqi => by
                                        by_cases eq : q = j
                                        · subst eq; exact (hqi rfl).elim
                                        · exact (HF.out (by first | exact e | trivial | exact absurd e (by simp))).2 q (by omega) hqi⟩, hbz⟩
                  case measure => simp [intOf]; omega
              · have hne : ((j : Int) != (i : Int)) = true := by rw [bne_iff_ne]; omega
                have g1 : decide (ej - sj < ei) = true := decide_eq_true (by omega)
                have g2 : decide (bi < ej) = false := decide_eq_false (by omega)
                have g3 : decide (bi < ej - sj) = false := decide_eq_false (by omega)
                have HEJ := Lib.hid HJJ.out.ens
                rcases hee : (ej == bi)
                · rcases f with _ | _
                  all_goals
                    go_wp2_with fail
                    go_quiet (fail)
                    have hbq := bdrw hbj nq
                    generalize wr.drewN nq = w2 at *
                    clear c0 c1 c2 c3 c4 d0 d1 d2 d3 d4 hbj es
                    obtain ⟨c0, c1, c2, c3, c4⟩ := HCI.out w2 hbq
                    obtain ⟨d0, d1, d2, d3, d4⟩ := HCJ.out w2 hbq
                    go_wp2_with fail
                    go_quiet (fail)
                    have hbz := bdrw hbq nq
                    generalize w2.drewN nq = w3 at *
                    clear c0 c1 c2 c3 c4 d0 d1 d2 d3 d4 hbq
                    go_wp2_with fail
                    go_roundw
                    case rel => exact ⟨_, j + 1, by omega, rfl, by go_num, fun e => ⟨(HF.out (by first | exact e | trivial | exact absurd e (by simp))).1, fun q hq hqi => by
                                          by_cases eq : q = j
                                          · subst eq; exact (by rw [← HEJ.out]; simpa using hee)
                                          · exact (HF.out (by first | exact e | trivial | exact absurd e (by simp))).2 q (by omega) hqi⟩, hbz⟩
                    case measure => simp [intOf]; omega
                · rcases f with _ | _
                  all_goals
                    go_wp2_with fail
                    go_quiet (fail)
                    have hbq := bdrw hbj nq
                    generalize wr.drewN nq = w2 at *
                    clear c0 c1 c2 c3 c4 d0 d1 d2 d3 d4 hbj es
                    obtain ⟨c0, c1, c2, c3, c4⟩ := HCI.out w2 hbq
                    obtain ⟨d0, d1, d2, d3, d4⟩ := HCJ.out w2 hbq
                    go_wp2_with fail
                    go_quiet (fail)
                    have hbz := bdrw hbq nq
                    generalize w2.drewN nq = w3 at *
                    clear c0 c1 c2 c3 c4 d0 d1 d2 d3 d4 hbq
                    go_wp2_with fail
                    go_roundw
                    case rel => exact ⟨_, j + 1, by omega, rfl, by go_num, (fun e => by cases e), hbz⟩
                    case measure => simp [intOf]; omega
              · have hne : ((j : Int) != (i : Int)) = true := by rw [bne_iff_ne]; omega
                have g1 : decide (ej - sj < ei) = false := decide_eq_false (by omega)
                have g3 : decide (bi < ej - sj) = true := decide_eq_true (by omega)
                have g4 : decide (aj ≤ bi) = false := decide_eq_false (by omega)
                have HEJ := Lib.hid HJJ.out.ens
                have hee : (ej == bi) = false := by rw [beq_eq_false_iff_ne]; omega
                rcases f with _ | _
                all_goals
                  go_wp2_with fail
                  go_quiet (fail)
                  have hbq := bdrw hbj nq
                  generalize wr.drewN nq = w2 at *
                  clear c0 c1 c2 c3 c4 d0 d1 d2 d3 d4 hbj es
                  obtain ⟨c0, c1, c2, c3, c4⟩ := HCI.out w2 hbq
                  obtain ⟨d0, d1, d2, d3, d4⟩ := HCJ.out w2 hbq
                  go_wp2_with fail
                  go_quiet (fail)
                  have hbz := bdrw hbq nq
                  generalize w2.drewN nq = w3 at *
                  clear c0 c1 c2 c3 c4 d0 d1 d2 d3 d4 hbq
                  go_wp2_with fail
                  go_roundw
                  case rel => exact ⟨_, j + 1, by omega, rfl, by go_num, fun e => ⟨(HF.out (by first | exact e | trivial | exact absurd e (by simp))).1, fun q hq hqi => by
                                        by_cases eq : q = j
                                        · subst eq; exact (by rw [← HEJ.out]; omega)
                                        · exact (HF.out (by first | exact e | trivial | exact absurd e (by simp))).2 q (by omega) hqi⟩, hbz⟩
                  case measure => simp [intOf]; omega
              · have hne : ((j : Int) != (i : Int)) = true := by rw [bne_iff_ne]; omega
                have g1 : decide (ej - sj < ei) = false := decide_eq_false (by omega)
                have g3 : decide (bi < ej - sj) = true := decide_eq_true (by omega)
                have g4 : decide (aj ≤ bi) = true := decide_eq_true (by omega)
                have g5 : decide (kj < ki) = false := decide_eq_false h3
                have HEJ := Lib.hid HJJ.out.ens
                have hee : (ej == bi) = false := by rw [beq_eq_false_iff_ne]; omega
                rcases f with _ | _
                all_goals
                  go_wp2_with fail
                  go_quiet (fail)
                  have hbq := bdrw hbj nq
                  generalize wr.drewN nq = w2 at *
                  clear c0 c1 c2 c3 c4 d0 d1 d2 d3 d4 hbj es
                  obtain ⟨c0, c1, c2, c3, c4⟩ := HCI.out w2 hbq
                  obtain ⟨d0, d1, d2, d3, d4⟩ := HCJ.out w2 hbq
                  go_wp2_with fail
                  go_quiet (fail)
                  have hbz := bdrw hbq nq
                  generalize w2.drewN nq = w3 at *
                  clear c0 c1 c2 c3 c4 d0 d1 d2 d3 d4 hbq
                  go_wp2_with fail
                  go_roundw
                  case rel => exact ⟨_, j + 1, by omega, rfl, by go_num, fun e => ⟨(HF.out (by first | exact e | trivial | exact absurd e (by simp))).1, fun q hq hqi => by
                                        by_cases eq : q = j
                                        · subst eq; exact (by rw [← HEJ.out]; omega)
                                        · exact (HF.out (by first | exact e | trivial | exact absurd e (by simp))).2 q (by omega) hqi⟩, hbz⟩
                  case measure => simp [intOf]; omega
            · obtain rfl : j = rs.length := by omega
              obtain rfl : f = true := by
                rcases f with _ | _
                · exfalso
                  obtain ⟨h1, h2⟩ := HF.out rfl
                  obtain ⟨q, hq, hqi, hqe⟩ := HO.out.1.follows (fun k hk => (HS.out k hk).1) hlt (by rw [← HII.out.ens, ← HII.out.szs, ← HII.out.ats, HBI.out]; exact fun e => h1 e.symm)
                  rw [← HII.out.ens, ← HII.out.szs, HBI.out] at hqe
                  exact h2 q hq hqi hqe
                · rfl
              go_wp2_with fail
              go_roundw
              case rel => exact ⟨i + 1, by omega, by go_num, hbj⟩
              case measure => simp [intOf]; omega
        · obtain rfl : i = rs.length := by omega
          go_wp2_with fail
          refine (works_any wr).mono ?_
          rintro e w10 ⟨rfl, hb10⟩
          have hb11 := (hb0.trans (hbi.mono hsz0)).trans (hb10.mono (by have := hbi.size; omega))
          clear hb0 hb10 hbi
          go_wp2_with fail
          go_ret
          exact ⟨rfl, hb11⟩
    · obtain ⟨c, hc⟩ : ∃ c, relS l rs = c := ⟨_, rfl⟩
      have hP := play_any A cap l G gcap rs w h hcap hG hm
      rw [hc] at hz hP
      have hcz : (c == 0) = false := by rw [beq_eq_false_iff_ne]; exact hz
      have hcs := relS_four l rs
      rw [hc] at hcs
      have hcs := hcs.resolve_left hz
      have HP := Lib.hid hP
      clear hP hc hm hz
      rcases hcs with rfl | rfl | rfl
      all_goals
        go_enter Try.func10, Try.ntmps10
        go_wp2_with fail
        refine HP.out.mono ?_
        rintro e w1 ⟨hb1, X, xk, rfl, _, _⟩
        go_wp2_with fail
        refine (works_any w1).mono ?_
        rintro e w10 ⟨rfl, hb10⟩
        have hb11 := hb1.trans (hb10.mono hb1.size)
        clear hb1 hb10
        go_wp2_with fail
        go_ret
        exact ⟨rfl, hb11⟩
theorem busBusy_row (A : Option Addr) (cap : Nat) (l : List MFrame) (G : Option Addr) (gcap : Nat) (rs : List MGate) (w : World) (hcap : l.length ≤ cap) (_ : cap ≤ maxLen) (h : FramesA w w.heap.size A l)
    (_ : ∀ f ∈ l, (Lit.int .i64 f.size).wf = true ∧ (Lit.int .i64 f.every).wf = true ∧ (Lit.int .i64 f.jitter).wf = true ∧ (Lit.int .i64 f.due).wf = true ∧ (Lit.int .i64 f.rank).wf = true)
    (hgc : rs.length ≤ gcap) (hgm : gcap ≤ maxLen) (hG : GatesA w w.heap.size G rs) (_ : ∀ g ∈ rs, (Lit.int .i64 g.rate).wf = true ∧ (Lit.int .i64 g.delay).wf = true) :
    Calls Try.prog 10 #[.slice A l.length cap, .slice G rs.length gcap] w fun e w' => e = .returned (.bool true) ∧ Below w.heap.size w w' := busBusy_any A cap l G gcap rs w h hcap hG (Nat.le_trans hgc hgm)
end Go.Proofs.Ytlbbhlkbhegegaa
