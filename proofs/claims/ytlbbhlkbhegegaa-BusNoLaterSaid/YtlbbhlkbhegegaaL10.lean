/- Walks: ignitionlaw04.BusNoLater. -/
import Derived.Test.YtlbbhlkbhegegaaKs1
import Derived.Test.YtlbbhlkbhegegaaPl3
import Derived.Test.YtlbbhlkbhegegaaR12
import Derived.Test.YtlbbhlkbhegegaaW2
namespace Go.Proofs.Ytlbbhlkbhegegaa
open Go.RowKit

/-- what keeps some releases from being looked at -/
theorem keepsS_cases (l : List MFrame) (rs : List MGate) (os : List Int) {kb : Bool} {kc : Int} (h : keepsS l rs os = (kb, kc)) :
    (kc != 0) = true ∨ (relS l rs = 0 ∧ kc = 0 ∧ kb = false) ∨ (relS l rs = 0 ∧ kc = 0 ∧ kb = true ∧ os.length = l.length ∧ os.all offB = true ∧ keepsB l rs os = true) := by
  by_cases hz : relS l rs = 0
  · by_cases ha : os.length = l.length ∧ os.all offB = true
    · rw [keepsS_ok hz ha.1 ha.2] at h
      injection h with h1 h2
      rcases kb with _ | _
      · exact Or.inr (Or.inl ⟨hz, h2.symm, rfl⟩)
      · exact Or.inr (Or.inr ⟨hz, h2.symm, rfl, ha.1, ha.2, h1⟩)
    · rw [keepsS_arg hz ha] at h
      injection h with h1 h2
      subst h2
      exact Or.inl rfl
  · rw [keepsS_err hz] at h
    injection h with h1 h2
    rw [h2] at hz
    exact Or.inl (by rw [bne_iff_ne]; exact hz)
def RetN (n : Nat) (w : World) (R : List Int) (c : Int) (e : Ending) (w' : World) : Prop :=
  ∃ X xk, e = .returned (.tuple #[.slice X n xk, .int .i64 c]) ∧ IntsA w' w'.heap.size X R ∧ Below w.heap.size w w'
theorem RetLE.toN {n : Nat} {w w' : World} {R : List Int} {c : Int} {e : Ending} (h : RetLE w R c e w') (hn : R.length = n) : RetN n w R c e w' := by
  obtain ⟨hb, X, xk, he, _, hX⟩ := h
  exact ⟨X, xk, by rw [he, hn], hX, hb⟩
set_option maxRecDepth 100000 in
set_option maxHeartbeats 4000000 in
theorem busNoLater_any (A : Option Addr) (cap : Nat) (l : List MFrame) (G : Option Addr) (gcap : Nat) (rs : List MGate) (O : Option Addr) (ocap : Nat) (os : List Int) (w : World) (h : FramesA w w.heap.size A l) (hcap : l.length ≤ cap) (hG : GatesA w w.heap.size G rs) (hm : rs.length ≤ maxLen) (hO : IntsA w w.heap.size O os) :
    Calls Try.prog 12 #[.slice A l.length cap, .slice G rs.length gcap, .slice O os.length ocap] w fun e w' => e = .returned (.bool true) ∧ Below w.heap.size w w' := by
  obtain ⟨c, hc⟩ : ∃ c, relS l rs = c := ⟨_, rfl⟩
  obtain ⟨fc, hfc⟩ : ∃ fc, fcheckS l = fc := ⟨_, rfl⟩
  obtain ⟨⟨kb, kc⟩, hk⟩ : ∃ p, keepsS l rs os = p := ⟨_, rfl⟩
  have HHV := Lib.hid (heavy_any A cap l w h)
  have H3 : Hid (∀ w1, Below w.heap.size w w1 → Calls Try.prog 36 #[.slice A l.length cap, .slice G rs.length gcap] w1 (RetLE w1 (playL l rs) c)) := fun w1 hb => by rw [← hc]; exact play_any A cap l G gcap rs w1 ((h.keep hb).more hb.size) hcap ((SlA.below hG hb (Nat.le_refl _)).more hb.size) hm
  have H4 : Hid (∀ w1, Below w.heap.size w w1 → Calls Try.prog 25 #[.slice A l.length cap] w1 (RetLE w1 (respL l) fc)) := fun w1 hb => by rw [← hfc]; exact responses_any A cap l w1 ((h.keep hb).more hb.size) hcap
  have H5 : Hid (∀ w1, Below w.heap.size w w1 → Calls Try.prog 39 #[.slice A l.length cap, .slice G rs.length gcap, .slice O os.length ocap] w1 fun e w' => e = .returned (.tuple #[.bool kb, .int .i64 kc]) ∧ Below w1.heap.size w1 w') := fun w1 hb => keeps_any A cap l G gcap rs O ocap os w1 ((h.keep hb).more hb.size) hcap ((SlA.below hG hb (Nat.le_refl _)).more hb.size) hm ((hO.below hb (Nat.le_refl _)).more hb.size) hk
  have hcs := keepsS_cases l rs os hk
  have hlen := h.1
  unfold maxLen at hlen hm
  rcases hcs with hcs | ⟨hz, rfl, rfl⟩ | ⟨hz, rfl, rfl, hol, hoff, hkp⟩
  · clear hk hc hfc h hG hO hcap
    by_cases h1 : 100 < rs.length
    · go_enter Try.func12, Try.ntmps12
      go_wp2_with fail
      refine HHV.out.mono ?_
      rintro e w1 ⟨⟨r, rfl⟩, hb1⟩
      rcases r with _ | _
      all_goals
        go_wp2_with fail
        refine (works_any w1).mono ?_
        rintro e w10 ⟨rfl, hb10⟩
        have hb11 := hb1.trans (hb10.mono hb1.size)
        clear hb1 hb10
        go_wp2_with fail
        go_ret
        exact ⟨rfl, hb11⟩
    · go_enter Try.func12, Try.ntmps12
      go_wp2_with fail
      refine HHV.out.mono ?_
      rintro e w1 ⟨⟨r, rfl⟩, hb1⟩
      rcases r with _ | _
      · go_wp2_with fail
        refine (H5.out _ hb1).mono ?_
        rintro e w2 ⟨rfl, hb2⟩
        have hb3 := hb1.trans (hb2.mono hb1.size)
        clear hb1 hb2
        go_wp2_with fail
        refine (H3.out _ hb3).mono ?_
        rintro e w3 ⟨hb4, X, xk, rfl, _, _⟩
        have hb5 := hb3.trans (hb4.mono hb3.size)
        clear hb3 hb4
        go_wp2_with fail
        refine (H4.out _ hb5).mono ?_
        rintro e w4 ⟨hb6, Y, yk, rfl, _, _⟩
        have hb7 := hb5.trans (hb6.mono hb5.size)
        clear hb5 hb6
        go_wp2_with fail
        refine (works_any w4).mono ?_
        rintro e w10 ⟨rfl, hb10⟩
        have hb11 := hb7.trans (hb10.mono hb7.size)
        clear hb7 hb10
        go_wp2_with fail
        go_ret
        exact ⟨rfl, hb11⟩
      · go_wp2_with fail
        refine (works_any w1).mono ?_
        rintro e w10 ⟨rfl, hb10⟩
        have hb11 := hb1.trans (hb10.mono hb1.size)
        clear hb1 hb10
        go_wp2_with fail
        go_ret
        exact ⟨rfl, hb11⟩
  · obtain rfl : c = 0 := hc.symm.trans hz
    obtain rfl : fc = 0 := by rw [← hfc]; exact fcheck_yes (relS_parts hz).1
    clear hk hc hfc h hG hO hcap hz
    go_enter Try.func12, Try.ntmps12
    go_wp2_with fail
    refine HHV.out.mono ?_
    rintro e w1 ⟨⟨r, rfl⟩, hb1⟩
    rcases r with _ | _
    · by_cases h1 : 100 < rs.length
      · go_wp2_with fail
        refine (works_any w1).mono ?_
        rintro e w10 ⟨rfl, hb10⟩
        have hb11 := hb1.trans (hb10.mono hb1.size)
        clear hb1 hb10
        go_wp2_with fail
        go_ret
        exact ⟨rfl, hb11⟩
      · go_wp2_with fail
        refine (H5.out _ hb1).mono ?_
        rintro e w2 ⟨rfl, hb2⟩
        have hb3 := hb1.trans (hb2.mono hb1.size)
        clear hb1 hb2
        go_wp2_with fail
        refine (H3.out _ hb3).mono ?_
        rintro e w3 ⟨hb4, X, xk, rfl, _, _⟩
        have hb5 := hb3.trans (hb4.mono hb3.size)
        clear hb3 hb4
        go_wp2_with fail
        refine (H4.out _ hb5).mono ?_
        rintro e w4 ⟨hb6, Y, yk, rfl, _, _⟩
        have hb7 := hb5.trans (hb6.mono hb5.size)
        clear hb5 hb6
        go_wp2_with fail
        refine (works_any w4).mono ?_
        rintro e w10 ⟨rfl, hb10⟩
        have hb11 := hb7.trans (hb10.mono hb7.size)
        clear hb7 hb10
        go_wp2_with fail
        go_ret
        exact ⟨rfl, hb11⟩
    · go_wp2_with fail
      refine (works_any w1).mono ?_
      rintro e w10 ⟨rfl, hb10⟩
      have hb11 := hb1.trans (hb10.mono hb1.size)
      clear hb1 hb10
      go_wp2_with fail
      go_ret
      exact ⟨rfl, hb11⟩
  · obtain rfl : c = 0 := hc.symm.trans hz
    obtain rfl : fc = 0 := by rw [← hfc]; exact fcheck_yes (relS_parts hz).1
    have hparts := relS_parts hz
    have hR : playL l rs = (List.range rs.length).map (playS l rs) := by unfold playL; rw [if_pos hz]
    have hS : respL l = (List.range l.length).map (respZ l) := by unfold respL; rw [if_pos hparts.1]
    have HRG : Hid (∀ k, k < rs.length → (playL l rs).getD k 0 = playS l rs k) := fun k hk => by
      rw [hR, List.getD_eq_getElem?_getD, List.getElem?_map, List.getElem?_range hk]; rfl
    have HSG : Hid (∀ k, k < l.length → (respL l).getD k 0 = respZ l k) := fun k hk => by
      rw [hS, List.getD_eq_getElem?_getD, List.getElem?_map, List.getElem?_range hk]; rfl
    have hRl : (playL l rs).length = rs.length := by rw [hR, List.length_map, List.length_range]
    have hSl : (respL l).length = l.length := by rw [hS, List.length_map, List.length_range]
    have HRL := Lib.hid hRl
    have HSL := Lib.hid hSl
    have H6 : Hid (∀ w1, Below w.heap.size w w1 → Calls Try.prog 36 #[.slice A l.length cap, .slice G rs.length gcap] w1 (RetN rs.length w1 (playL l rs) 0)) := fun w1 hb => (H3.out w1 hb).mono fun e w' h => h.toN hRl
    have H7 : Hid (∀ w1, Below w.heap.size w w1 → Calls Try.prog 25 #[.slice A l.length cap] w1 (RetN l.length w1 (respL l) 0)) := fun w1 hb => (H4.out w1 hb).mono fun e w' h => h.toN hSl
    have HDU : Hid (∀ w1, Below w.heap.size w w1 → Calls Try.prog 41 #[.slice A l.length cap, .slice G rs.length gcap, .slice O os.length ocap] w1 fun e w' => ∃ X xk x, e = .returned (.slice X rs.length xk) ∧ rs.length ≤ xk ∧ IntsA w' w'.heap.size X x ∧ (x.length = rs.length ∧ ∀ k, k < rs.length → x.getD k 0 = dueS l rs os k) ∧ Below w1.heap.size w1 w') := fun w1 hb => due_any A cap l G gcap rs O ocap os w1 ((h.keep hb).more hb.size) ((SlA.below hG hb (Nat.le_refl _)).more hb.size) ((hO.below hb (Nat.le_refl _)).more hb.size) hz hol hoff
    have HF := Lib.hid (framesF hparts.1)
    have hr5 := hparts.2.1
    have hl40 := (framesB_parts hparts.1).1
    have HR := Lib.hid (fun k r (hk : rs[k]? = some r) => relsB_at hparts.2.2 hk)
    have HOF := Lib.hid (fun k (hk : k < os.length) => offs_at hoff hk)
    have HNL := Lib.hid (fun i (hi : i < rs.length) hm => no_later hz hkp hi hm)
    have HAT := Lib.hid (fun i (hi : i < rs.length) => (play_ok hz).1.at_ i hi)
    have HZB := Lib.hid (fun i (hi : i < l.length) => respZ_bd hparts.1 hi)
    have HOL := Lib.hid hol
    have hne1 : ((rs.length : Int) != (rs.length : Int)) = false := by simp
    have hne2 : ((l.length : Int) != (l.length : Int)) = false := by simp
    clear hk hc hfc hR hS hRl hSl H3 H4 hparts hz hol hoff hkp
    go_enter Try.func12, Try.ntmps12
    go_wp2_with fail
    refine HHV.out.mono ?_
    rintro e w1 ⟨⟨r, rfl⟩, hb1⟩
    rcases r with _ | _
    · by_cases h1 : 100 < rs.length
      · go_wp2_with fail
        refine (works_any w1).mono ?_
        rintro e w10 ⟨rfl, hb10⟩
        have hb11 := hb1.trans (hb10.mono hb1.size)
        clear hb1 hb10
        go_wp2_with fail
        go_ret
        exact ⟨rfl, hb11⟩
      · go_wp2_with fail
        refine (H5.out _ hb1).mono ?_
        rintro e w2 ⟨rfl, hb2⟩
        have hb3 := hb1.trans (hb2.mono hb1.size)
        clear hb1 hb2
        go_wp2_with fail
        refine (H6.out _ hb3).mono ?_
        rintro e w3 ⟨X, xk, rfl, hX, hb4⟩
        have hb5 := hb3.trans (hb4.mono hb3.size)
        clear hb3 hb4
        go_wp2_with fail
        refine (H7.out _ hb5).mono ?_
        rintro e w4 ⟨Y, yk, rfl, hY, hb6⟩
        have hb7 := hb5.trans (hb6.mono hb5.size)
        have hX4 := hX.below hb6 (Nat.le_refl _)
        have hX4 := hX4.more hb6.size
        clear hb5 hb6 hX
        go_wp2_with fail
        refine (HDU.out _ hb7).mono ?_
        rintro e w5 ⟨Z, zk, z, rfl, hzk, hZ, ⟨hzl, hzd⟩, hb8⟩
        have HZL := Lib.hid hzl
        have HZD := Lib.hid hzd
        have hb9 := hb7.trans (hb8.mono hb7.size)
        have hX5 := (hX4.below hb8 (Nat.le_refl _)).more hb8.size
        have hY5 := (hY.below hb8 (Nat.le_refl _)).more hb8.size
        clear hb7 hb8 hX4 hY hzl hzd
        have hF5 := (h.keep hb9).more hb9.size
        have hG5 := (SlA.below hG hb9 (Nat.le_refl _)).more hb9.size
        have hs9 := hb9.size
        go_wp2_with fail
        go_loopw [14] (fun vi wr => ∃ k : Nat, k ≤ rs.length ∧ vi = .int .i64 k ∧ Below w5.heap.size w5 wr) (fun vi _ => rs.length - (intOf vi).toNat)
        case atStart => exact ⟨0, Nat.zero_le _, rfl, Below.refl _ _⟩
        case round =>
          obtain ⟨k, hk, rfl, hbw⟩ := hrel
          by_cases hlt : k < rs.length
          · obtain ⟨r, rb, ro, hr, rfl, hrb, c0, c1⟩ := GatesA.at_ (SlA.below hG5 hbw (Nat.le_refl _)) hlt
            have hrr := (HR.out k r hr).1
            have hrd := (HR.out k r hr).2
            have HRK := Lib.hid (relAt_of hr)
            clear hr
            have hrn : r.rate.toNat < l.length := by omega
            obtain ⟨f, fb, fo, hf, rfl, hfb, f0, f1, f2, _, _⟩ := (hF5.keep hbw).at_ (k := r.rate.toNat) hrn
            have hfo := HF.out _ f hf
            have hfs := hfo.1
            have hoo := HOF.out r.rate.toNat (by have := HOL.out; omega)
            have hsk := sameTo_le (rs := rs) (f := r.rate) k
            have hdb := dueAt_bd (n := sameTo rs r.rate k) hf hfo.2.1 hoo (by omega)
            have HDS : Hid (dueS l rs os k = dueAt l os r.rate (sameTo rs r.rate k)) := by show _ = _; unfold dueS; rw [HRK.out]
            obtain ⟨xb, xo, rfl, hxb, x0⟩ := (hX5.below hbw (Nat.le_refl _)).at_ (k := k) (by have := HRL.out; omega)
            obtain ⟨yb, yo, rfl, hyb, y0⟩ := (hY5.below hbw (Nat.le_refl _)).at_ (k := r.rate.toNat) (by have := HSL.out; omega)
            obtain ⟨zb, zo, rfl, hzb, z0⟩ := (hZ.below hbw (Nat.le_refl _)).at_ (k := k) (by have := HZL.out; omega)
            rw [HRG.out k hlt] at x0
            rw [HSG.out _ hrn] at y0
            rw [HZD.out k hlt, HDS.out] at z0
            have hat := HAT.out k hlt
            have hsz : szP l rs k = f.size := by unfold szP sizeOf_; rw [HRK.out, List.getD_eq_getElem?_getD, hf]; rfl
            rw [hsz, HRK.out] at hat
            have hzb0 := HZB.out _ hrn
            have hfr : frN rs k = r.rate.toNat := by unfold frN; rw [HRK.out]
            have hnl := HNL.out k hlt
            rw [hfr, HDS.out] at hnl
            clear hf hfo hoo hsk HDS hsz hfr
            generalize dueAt l os r.rate (sameTo rs r.rate k) = d at *
            generalize respZ l r.rate.toNat = m at *
            generalize playS l rs k = E at *
            have hE : 0 ≤ E := by omega
            have e1 : IntKind.i64.wrap (r.delay + f.size) = r.delay + f.size := IntWalk.i64_in _ (by omega)
            have e2 : IntKind.i64.wrap (d + m) = d + m := IntWalk.i64_in _ (by omega)
            have g1 : decide (E < r.delay + f.size) = false := decide_eq_false (by omega)
            clear HRG HSG HZD HAT HZB HNL HHV
            by_cases hm0 : 0 ≤ m
            · have hle := hnl hm0
              have g2 : decide (0 ≤ m) = true := decide_eq_true hm0
              have g3 : decide (d + m < E) = false := decide_eq_false (by omega)
              clear hnl
              go_wp2_with fail
              go_quiet (fail)
              clear e1 e2
              go_wp2_with fail
              go_roundw
              case rel => exact ⟨k + 1, by omega, by go_num, bdrw hbw _⟩
              case measure => simp [intOf]; omega
            · have g2 : decide (0 ≤ m) = false := decide_eq_false hm0
              clear hnl
              go_wp2_with fail
              go_quiet (fail)
              clear e1 e2
              go_wp2_with fail
              go_roundw
              case rel => exact ⟨k + 1, by omega, by go_num, bdrw hbw _⟩
              case measure => simp [intOf]; omega
          · obtain rfl : k = rs.length := by omega
            go_wp2_with fail
            refine (works_any wr).mono ?_
            rintro e w10 ⟨rfl, hb10⟩
            have hb11 := (hb9.trans (hbw.mono hs9)).trans (hb10.mono (by have := hbw.size; omega))
            clear hb9 hb10 hbw
            go_wp2_with fail
            go_ret
            exact ⟨rfl, hb11⟩
    · go_wp2_with fail
      refine (works_any w1).mono ?_
      rintro e w10 ⟨rfl, hb10⟩
      have hb11 := hb1.trans (hb10.mono hb1.size)
      clear hb1 hb10
      go_wp2_with fail
      go_ret
      exact ⟨rfl, hb11⟩
theorem busNoLater_row (A : Option Addr) (cap : Nat) (l : List MFrame) (G : Option Addr) (gcap : Nat) (rs : List MGate) (O : Option Addr) (ocap : Nat) (os : List Int) (w : World) (hcap : l.length ≤ cap) (_ : cap ≤ maxLen) (h : FramesA w w.heap.size A l)
    (_ : ∀ f ∈ l, (Lit.int .i64 f.size).wf = true ∧ (Lit.int .i64 f.every).wf = true ∧ (Lit.int .i64 f.jitter).wf = true ∧ (Lit.int .i64 f.due).wf = true ∧ (Lit.int .i64 f.rank).wf = true)
    (hgc : rs.length ≤ gcap) (hgm : gcap ≤ maxLen) (hG : GatesA w w.heap.size G rs) (_ : ∀ g ∈ rs, (Lit.int .i64 g.rate).wf = true ∧ (Lit.int .i64 g.delay).wf = true)
    (_ : os.length ≤ ocap) (_ : ocap ≤ maxLen) (hO : IntsA w w.heap.size O os) (_ : ∀ f ∈ os, (Lit.int .i64 f).wf = true) :
    Calls Try.prog 12 #[.slice A l.length cap, .slice G rs.length gcap, .slice O os.length ocap] w fun e w' => e = .returned (.bool true) ∧ Below w.heap.size w w' := busNoLater_any A cap l G gcap rs O ocap os w h hcap hG (Nat.le_trans hgc hgm) hO
end Go.Proofs.Ytlbbhlkbhegegaa
