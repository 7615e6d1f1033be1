/- Walk: the law DiagnoseCheapest. -/
import Derived.Test.YtonpemikodajdaaDoorGw
import Derived.Test.YtonpemikodajdaaDoorLf
import Derived.Deep.RegionHeld3
namespace Go.Proofs.YtonpemikodajdaaDoor
open Go.RowKit

theorem bits_full_list {c : MCase} (hn : c.weights.length ≤ 12) : bitsI (fullS c) = (List.range c.weights.length).map fun (i : Nat) => (i : Int) := by
  unfold bitsI fullS
  rw [bitsOf_full _ (by omega)]
theorem grown_root {c : MCase} (hc : caseB c = true) {ord : List Int} (hm : ord.length = 0 ∨ 0 < c.tests.length) : let G := growG (chT c ord) c (fullS c) 0; guideE c G = 0 ∧ costE c G = costTo c G c.weights.length ∧ (bestS c (fullS c)).2 ≤ costTo c G c.weights.length ∧ 1 ≤ G.length ∧ G.length ≤ 24 ∧ ∀ i, i < G.length → (fk G i).next.length ≤ maxLen ∧ (fk G i).set.length ≤ maxLen := by
  have hok := caseOk hc
  have hch := chT_ok (c := c) (ord := ord) hm
  have hr := growG_right hok hch
  have hcap := growG_cap hok hch 0
  have hg := guideE_yes hc hr
  obtain ⟨S, hT, hS⟩ := tree_ok hok hr
  exact ⟨hg, by unfold costE; rw [hg, if_pos rfl], guide_least hok hr, hcap.1, hcap.2, fun i hi => forks_len hT hi⟩
set_option maxRecDepth 100000 in
set_option maxHeartbeats 8000000 in
theorem lawCheapest_any (A1 A2 : Option Addr) (c1 c2 : Nat) (c : MCase) (At : Option Addr) (ct : Nat) (F : List MFork) (Ao : Option Addr) (co : Nat) (ord : List Int) (w : World) (h : CaseA w w.heap.size A1 A2 c) (hF : ForksA w w.heap.size At F) (ho : IntsA w w.heap.size Ao ord) (hT : TabW w) :
    Calls Tryd.prog 10 #[.agg #[.slice A1 c.weights.length c1, .slice A2 c.tests.length c2], .slice At F.length ct, .slice Ao ord.length co] w fun e w' => e = .returned (.bool true) ∧ Below w.heap.size w w' := by
  have hb1 : Below w.heap.size w (w.alloc (.cells #[.slice A1 c.weights.length c1, .slice A2 c.tests.length c2] 36)) := (Below.refl _ _).alloc (Nat.le_refl _) _
  have hsz : (w.alloc (.cells #[.slice A1 c.weights.length c1, .slice A2 c.tests.length c2] 36)).heap.size = w.heap.size + 1 := by simp
  have n0 := newcell w #[.slice A1 c.weights.length c1, .slice A2 c.tests.length c2] 36 0
  have n1 := newcell w #[.slice A1 c.weights.length c1, .slice A2 c.tests.length c2] 36 1
  simp only [List.getElem?_toArray, List.getElem?_cons_succ, List.getElem?_cons_zero] at n0 n1
  have HC : Hid (∀ wx, Below (w.heap.size + 1) (w.alloc (.cells #[.slice A1 c.weights.length c1, .slice A2 c.tests.length c2] 36)) wx → CaseA wx wx.heap.size A1 A2 c ∧ TabW wx ∧ ForksA wx wx.heap.size At F ∧ CaseA wx w.heap.size A1 A2 c ∧ IntsA wx w.heap.size Ao ord) := fun wx hb => by
    have hbw := hb1.trans (hb.mono (by omega))
    exact ⟨(h.keep hbw).more hbw.size, hT.keep hbw, (hF.keep hbw).more hbw.size, h.keep hbw, ho.keep hbw⟩
  have HN : Hid (∀ wx, Below (w.heap.size + 1) (w.alloc (.cells #[.slice A1 c.weights.length c1, .slice A2 c.tests.length c2] 36)) wx → wx.cell? ⟨w.heap.size, 0, none⟩ = some (.slice A1 c.weights.length c1) ∧ wx.cell? ⟨w.heap.size, 1, none⟩ = some (.slice A2 c.tests.length c2)) := fun wx hb => ⟨(bcell hb _ _ (by omega)).trans n0, (bcell hb _ _ (by omega)).trans n1⟩
  have HW : Hid (∀ wx, Below (w.heap.size + 1) (w.alloc (.cells #[.slice A1 c.weights.length c1, .slice A2 c.tests.length c2] 36)) wx → Calls Tryd.prog 18 #[] wx fun e w' => e = .returned (.bool true) ∧ Below wx.heap.size wx w') := fun wx hb => works_any wx (HC.out wx hb).2.1
  obtain ⟨b, hbe⟩ : ∃ b, bigB c = b := ⟨_, rfl⟩
  have H19 : Hid (Calls Tryd.prog 19 #[.agg #[.slice A1 c.weights.length c1, .slice A2 c.tests.length c2]] (w.alloc (.cells #[.slice A1 c.weights.length c1, .slice A2 c.tests.length c2] 36)) fun e w' => e = .returned (.bool b) ∧ Below (w.alloc (.cells #[.slice A1 c.weights.length c1, .slice A2 c.tests.length c2] 36)).heap.size (w.alloc (.cells #[.slice A1 c.weights.length c1, .slice A2 c.tests.length c2] 36)) w') := big_any _ _ _ _ _ _ hbe
  have hfl := hF.1
  have hol := ho.1
  unfold maxLen at hfl hol
  have HT := Lib.hid hT
  have hT1 := hT.1
  obtain ⟨p0, p1⟩ := HN.out _ (Below.refl _ _)
  clear h hF ho hT hbe n0 n1
  rcases b with _ | _
  rotate_left
  · go_enter Tryd.func10, Tryd.ntmps10
    go_wp2_with (first
      | (go_at_call 19; (with_reducible refine H19.out.mono ?_); rintro e w2 ⟨rfl, hb2⟩; have HB2 : Hid (Below (w.heap.size + 1) (w.alloc (.cells #[.slice A1 c.weights.length c1, .slice A2 c.tests.length c2] 36)) w2) := hb2.mono (by omega); clear hb2)
      | (go_at_call 18; (with_reducible refine (HW.out _ HB2.out).mono ?_); rintro e w8 ⟨rfl, hb8⟩))
    go_ret
    exact ⟨rfl, (hb1.trans (HB2.out.mono (by omega))).trans (hb8.mono (by have := HB2.out.size; omega))⟩
  rcases hd1 : decide ((200 : Int) < F.length)
  rotate_left
  · go_enter Tryd.func10, Tryd.ntmps10
    go_wp2_with (first
      | (go_at_call 19; (with_reducible refine H19.out.mono ?_); rintro e w2 ⟨rfl, hb2⟩; have HB2 : Hid (Below (w.heap.size + 1) (w.alloc (.cells #[.slice A1 c.weights.length c1, .slice A2 c.tests.length c2] 36)) w2) := hb2.mono (by omega); clear hb2)
      | (go_at_call 18; (with_reducible refine (HW.out _ HB2.out).mono ?_); rintro e w8 ⟨rfl, hb8⟩))
    go_ret
    exact ⟨rfl, (hb1.trans (HB2.out.mono (by omega))).trans (hb8.mono (by have := HB2.out.size; omega))⟩
  rcases hd2 : decide ((20 : Int) < ord.length)
  rotate_left
  · go_enter Tryd.func10, Tryd.ntmps10
    go_wp2_with (first
      | (go_at_call 19; (with_reducible refine H19.out.mono ?_); rintro e w2 ⟨rfl, hb2⟩; have HB2 : Hid (Below (w.heap.size + 1) (w.alloc (.cells #[.slice A1 c.weights.length c1, .slice A2 c.tests.length c2] 36)) w2) := hb2.mono (by omega); clear hb2)
      | (go_at_call 18; (with_reducible refine (HW.out _ HB2.out).mono ?_); rintro e w8 ⟨rfl, hb8⟩))
    go_ret
    exact ⟨rfl, (hb1.trans (HB2.out.mono (by omega))).trans (hb8.mono (by have := HB2.out.size; omega))⟩
  have hol2 : ord.length ≤ 20 := by have := of_decide_eq_false hd2; omega
  rcases hcb : caseB c
  · have H20 : Hid (∀ wx, Below (w.heap.size + 1) (w.alloc (.cells #[.slice A1 c.weights.length c1, .slice A2 c.tests.length c2] 36)) wx → Calls Tryd.prog 20 #[.agg #[.slice A1 c.weights.length c1, .slice A2 c.tests.length c2]] wx fun e w' => e = .returned (.tuple #[.slice none 0 0, .int .i64 0, .int .i64 101]) ∧ Below wx.heap.size wx w') := fun wx hb => by
      refine (guide_any _ _ c1 c2 c wx (HC.out wx hb).1 (HC.out wx hb).2.1).mono ?_
      rintro e w' ⟨hb', ⟨_, he⟩ | ⟨h9, _⟩⟩
      · exact ⟨he, hb'⟩
      · rw [hcb] at h9; cases h9
    clear hcb
    go_enter Tryd.func10, Tryd.ntmps10
    go_wp2_with (first
      | (go_at_call 19; (with_reducible refine H19.out.mono ?_); rintro e w2 ⟨rfl, hb2⟩; have HB2 : Hid (Below (w.heap.size + 1) (w.alloc (.cells #[.slice A1 c.weights.length c1, .slice A2 c.tests.length c2] 36)) w2) := hb2.mono (by omega); obtain ⟨r0, r1⟩ := HN.out w2 HB2.out; clear hb2)
      | (go_at_call 20; (with_reducible refine (H20.out _ HB2.out).mono ?_); rintro e w3 ⟨rfl, hb3⟩; have HB3 : Hid (Below (w.heap.size + 1) (w.alloc (.cells #[.slice A1 c.weights.length c1, .slice A2 c.tests.length c2] 36)) w3) := HB2.out.trans (hb3.mono (by have := HB2.out.size; omega)); clear hb3)
      | (go_at_call 18; (with_reducible refine (HW.out _ HB3.out).mono ?_); rintro e w8 ⟨rfl, hb8⟩))
    go_ret
    exact ⟨rfl, (hb1.trans (HB3.out.mono (by omega))).trans (hb8.mono (by have := HB3.out.size; omega))⟩
  · have hok := caseOk hcb
    have hn1 := hok.n1
    have hn2 := hok.n2
    have hm12 := hok.t
    obtain ⟨K, hK⟩ : ∃ K, (bestS c (fullS c)).2 = K := ⟨_, rfl⟩
    have H20 : Hid (∀ wx, Below (w.heap.size + 1) (w.alloc (.cells #[.slice A1 c.weights.length c1, .slice A2 c.tests.length c2] 36)) wx → Calls Tryd.prog 20 #[.agg #[.slice A1 c.weights.length c1, .slice A2 c.tests.length c2]] wx fun e w' => ∃ v, e = .returned (.tuple #[v, .int .i64 K, .int .i64 0]) ∧ Below wx.heap.size wx w') := fun wx hb => by
      refine (guide_any _ _ c1 c2 c wx (HC.out wx hb).1 (HC.out wx hb).2.1).mono ?_
      rintro e w' ⟨hb', ⟨h9, _⟩ | ⟨_, v, he, _⟩⟩
      · rw [hcb] at h9; cases h9
      · exact ⟨v, by rw [he, hK], hb'⟩
    obtain ⟨E0, hE0⟩ : ∃ E, guideE c F = E := ⟨_, rfl⟩
    obtain ⟨N0, hN0⟩ : ∃ N, costE c F = N := ⟨_, rfl⟩
    have H38 : Hid (∀ wx, Below (w.heap.size + 1) (w.alloc (.cells #[.slice A1 c.weights.length c1, .slice A2 c.tests.length c2] 36)) wx → Calls Tryd.prog 38 #[.agg #[.slice A1 c.weights.length c1, .slice A2 c.tests.length c2], .slice At F.length ct] wx fun e w' => e = .returned (.tuple #[.int .i64 N0, .int .i64 E0]) ∧ Below wx.heap.size wx w') := fun wx hb => pCost_any _ _ c1 c2 c At ct F wx (HC.out wx hb).1 (HC.out wx hb).2.1 (HC.out wx hb).2.2.1 hE0 hN0
    have hNK : E0 = 0 → K ≤ N0 := fun e => by
      rw [e] at hE0
      rw [← hN0, ← hK]
      unfold costE
      rw [hE0, if_pos rfl]
      refine guide_least hok ?_
      rcases guideE_cases c F with ⟨_, _, h9⟩ | ⟨h9, _⟩
      · exact h9
      · exact absurd hE0 h9
    obtain ⟨ordM, hordM⟩ : ∃ l : List Int, (if 0 < c.tests.length then ord else []) = l := ⟨_, rfl⟩
    have hmM : ordM.length = 0 ∨ 0 < c.tests.length := by
      rw [← hordM]
      by_cases e : 0 < c.tests.length
      · exact .inr e
      · rw [if_neg e]; exact .inl rfl
    have hroot := grown_root hcb (ord := ordM) hmM
    obtain ⟨G, hG⟩ : ∃ G, growG (chT c ordM) c (fullS c) 0 = G := ⟨_, rfl⟩
    rw [hG, hK] at hroot
    obtain ⟨hg1, hg2, hg3, hg4, hg5, hg6⟩ := hroot
    obtain ⟨N9, hN9⟩ : ∃ N, costTo c G c.weights.length = N := ⟨_, rfl⟩
    rw [hN9] at hg2 hg3
    have hfull := bits_full_list hn2
    have hbl := bitsI_len (fullS c)
    have H39 : Hid (∀ (wx : World) (As : Option Addr) (cs b0 : Nat) (Am : Option Addr) (cm : Nat), Below (w.heap.size + 1) (w.alloc (.cells #[.slice A1 c.weights.length c1, .slice A2 c.tests.length c2] 36)) wx → OutI wx b0 (.slice As (bitsI (fullS c)).length cs) (bitsI (fullS c)) → (bitsI (fullS c)).length ≤ cs → IntsA wx w.heap.size Am ordM → Calls Tryd.prog 39 #[.agg #[.slice A1 c.weights.length c1, .slice A2 c.tests.length c2], .slice As (bitsI (fullS c)).length cs, .slice Am ordM.length cm, .slice none 0 0] wx fun e w' => ∃ Ag cg, e = .returned (.slice Ag G.length cg) ∧ ForksA w' w'.heap.size Ag G ∧ Below wx.heap.size wx w') := fun wx As cs b0 Am cm hb hO hcs hI => by
      have hpre : GrownPre wx w.heap.size wx.heap.size A1 A2 c Am ordM (fun _ _ => True) (fun _ => ((none, 0), (none, 0))) (.slice none 0 0) [] As (fullS c) := ⟨(HC.out wx hb).2.2.2.1, hI, by have := hb.size; omega, Nat.le_refl _, OutV.nil _ _ _ _, fun _ _ _ _ => trivial, hO.intsU rfl fun _ _ _ => ⟨trivial, fun e => by cases e⟩⟩
      refine (grown_any w.heap.size wx.heap.size A1 c1 A2 c2 c hcb Am cm ordM hmM (by rw [← hordM]; split; (exact Nat.le_trans hol2 (by decide)); (exact Nat.zero_le _)) (fullS c) (fullS_lt c) wx As cs _ _ _ [] hpre hcs (by rw [show ([] : List MFork).length = 0 from rfl, hG]; omega)).mono ?_
      rintro e w' ⟨v', pv', he, hO', _, hg', _⟩
      rw [show ([] : List MFork).length = 0 from rfl, hG, List.nil_append] at hO'
      obtain ⟨Ag, cg, hv, _⟩ := hO'.lenV
      subst hv
      exact ⟨Ag, cg, he, hO'.outK.forks (by unfold maxLen; omega) hg6, (Below.refl _ _).grown hg' (Nat.le_refl _) (fun k hk => by cases hk)⟩
    have H38M : Hid (∀ (wx : World) (Ag : Option Addr) (cg : Nat), Below (w.heap.size + 1) (w.alloc (.cells #[.slice A1 c.weights.length c1, .slice A2 c.tests.length c2] 36)) wx → ForksA wx wx.heap.size Ag G → Calls Tryd.prog 38 #[.agg #[.slice A1 c.weights.length c1, .slice A2 c.tests.length c2], .slice Ag G.length cg] wx fun e w' => e = .returned (.tuple #[.int .i64 N9, .int .i64 0]) ∧ Below wx.heap.size wx w') := fun wx Ag cg hb hFG => pCost_any _ _ c1 c2 c Ag cg G wx (HC.out wx hb).1 (HC.out wx hb).2.1 hFG hg1 hg2
    have HFULL := Lib.hid hfull
    have HNK := Lib.hid hNK
    have HORD := Lib.hid hordM
    have HKN := Lib.hid hg3
    have hbn : (bitsI (fullS c)).length = c.weights.length := by rw [hfull, List.length_map, List.length_range]
    have HBN := Lib.hid hbn
    clear hcb hok hK hE0 hN0 hNK hordM hmM hG hg1 hg2 hg3 hg4 hg5 hg6 hN9 hfull hbl hbn
    have HD : Hid ((E0 = 0 → decide (N0 < K) = false)) := fun e => decide_eq_false (by have := HNK.out e; omega)
    rcases hE : (E0 == 0)
    · go_enter Tryd.func10, Tryd.ntmps10
      go_wp2_with (first
        | (go_at_call 19; (with_reducible refine H19.out.mono ?_); rintro e w2 ⟨rfl, hb2⟩; have HB2 : Hid (Below (w.heap.size + 1) (w.alloc (.cells #[.slice A1 c.weights.length c1, .slice A2 c.tests.length c2] 36)) w2) := hb2.mono (by omega); obtain ⟨r0, r1⟩ := HN.out w2 HB2.out; clear hb2)
        | (go_at_call 20; (with_reducible refine (H20.out _ HB2.out).mono ?_); rintro e w3 ⟨v3, rfl, hb3⟩; have HB3 : Hid (Below (w.heap.size + 1) (w.alloc (.cells #[.slice A1 c.weights.length c1, .slice A2 c.tests.length c2] 36)) w3) := HB2.out.trans (hb3.mono (by have := HB2.out.size; omega)); obtain ⟨s0, s1⟩ := HN.out w3 HB3.out; clear hb3)
        | (go_at_call 38; (with_reducible refine (H38.out _ HB3.out).mono ?_); rintro e w4 ⟨rfl, hb4⟩; have HB4 : Hid (Below (w.heap.size + 1) (w.alloc (.cells #[.slice A1 c.weights.length c1, .slice A2 c.tests.length c2] 36)) w4) := HB3.out.trans (hb4.mono (by have := HB3.out.size; omega)); clear hb4))
      clear p0 p1 r0 r1 s0 s1 H20 H38 H19 HB2 HB3
      have hs4 := HB4.out.size
      rw [hsz] at hs4
      go_loopw [12, 11] (fun vi va wr => ∃ (k cap : Nat) (A : Option Addr), k ≤ c.weights.length ∧ vi = .int .i64 k ∧ va = .slice A k cap ∧ k ≤ cap ∧ Hid (OutI wr w4.heap.size va ((List.range k).map fun (i : Nat) => (i : Int))) ∧ Hid (Below w4.heap.size w4 wr)) (fun vi _ _ => c.weights.length - (intOf vi).toNat)
      case atStart => exact ⟨0, 0, none, Nat.zero_le _, rfl, rfl, Nat.le_refl _, OutI.nil _ _, Below.refl _ _⟩
      case round =>
        obtain ⟨k, cap, A, hk, rfl, rfl, hkc, HO, HB⟩ := hrel
        rename World => wr
        have HBR : Hid (Below (w.heap.size + 1) (w.alloc (.cells #[.slice A1 c.weights.length c1, .slice A2 c.tests.length c2] 36)) wr) := HB4.out.trans (HB.out.mono hs4)
        have hsr := HB.out.size
        obtain ⟨p0, p1⟩ := HN.out wr HBR.out
        by_cases hlt : k < c.weights.length
        · have HQ0 := Lib.hid (newcell wr #[.int .i64 k] 3 0)
          have HO6 : Hid (OutI (wr.alloc (.cells #[.int .i64 k] 3)) w4.heap.size (.slice A k cap) ((List.range k).map fun (i : Nat) => (i : Int))) := World.ownsRow.alloc HO.out _
          have hs6 : w4.heap.size ≤ (wr.alloc (.cells #[.int .i64 k] 3)).heap.size := by simp; omega
          have HVL := Lib.hid (own_block_lt HO.out)
          have hll : ((List.range k).map fun (i : Nat) => (i : Int)).length ≤ 1000000 := by rw [List.length_map, List.length_range]; omega
          go_wp2_with (at_builtin; refine app_int _ rfl _ _ rfl w4.heap.size _ _ rfl HO6.out wr.heap.size k rfl HQ0.out hll hs6 ?_; intro v7 w7 hO7 hg7; have HO7 := Lib.hid hO7; have HG7 := Lib.hid hg7; obtain ⟨A7, cap7, hv7, hc7, _⟩ := hO7.reads; rw [show ((List.range k).map (fun (i : Nat) => (i : Int)) ++ [(k : Int)]).length = k + 1 by simp] at hv7 hc7; have HV7 := Lib.hid hv7; have HC7 := Lib.hid hc7; clear hO7 hg7 hv7 hc7)
          go_roundw
          case rel => exact ⟨k + 1, cap7, A7, by omega, by go_num, HV7.out, HC7.out, by { show OutI _ _ _ _; rw [List.range_succ, List.map_append]; exact HO7.out }, (HB.out.alloc (by omega) _).grown HG7.out hs6 (fun g hg => (HVL.out g hg).1)⟩
          case measure => simp [intOf]; omega
        · obtain rfl : k = c.weights.length := by omega
          have HOF : Hid (OutI wr w4.heap.size (.slice A (bitsI (fullS c)).length cap) (bitsI (fullS c))) := by
            show OutI _ _ _ _
            rw [HBN.out]
            rw [HFULL.out]
            exact HO.out
          have hkc2 : (bitsI (fullS c)).length ≤ cap := by rw [HBN.out]; exact hkc
          have hcc := HC.out wr HBR.out
          have HIM : Hid (∃ (Am : Option Addr) (cm : Nat), (if 0 < c.tests.length then Value.slice Ao ord.length co else .slice none 0 0) = .slice Am ordM.length cm ∧ ∀ wx, Below wr.heap.size wr wx → IntsA wx w.heap.size Am ordM) := by
            show ∃ _, _
            rw [← HORD.out]
            by_cases e : 0 < c.tests.length
            · rw [if_pos e, if_pos e]
              exact ⟨Ao, co, rfl, fun wx hb => hcc.2.2.2.2.keep (hb.mono (by omega))⟩
            · rw [if_neg e, if_neg e]
              exact ⟨none, 0, rfl, fun wx _ => ints_nil _ _ _⟩
          obtain ⟨Am, cm, hAm, hIm⟩ := HIM.out
          have HIMM := Lib.hid hIm
          have H39K : Hid (∀ wx, Below wr.heap.size wr wx → Calls Tryd.prog 39 #[.agg #[.slice A1 c.weights.length c1, .slice A2 c.tests.length c2], .slice A c.weights.length cap, .slice Am ordM.length cm, .slice none 0 0] wx fun e w' => ∃ Ag cg, e = .returned (.slice Ag G.length cg) ∧ ForksA w' w'.heap.size Ag G ∧ Below wx.heap.size wx w') := fun wx hb => by
            have h9 := H39.out wx A cap w4.heap.size Am cm (HBR.out.trans (hb.mono (by omega))) (own_below HOF.out hb (fun g hg => (own_block_lt HOF.out g hg).2)) hkc2 (HIMM.out wx hb)
            rw [HBN.out] at h9
            exact h9
          have HKK : Hid (∀ wx, Below wr.heap.size wr wx → wx.cell? ⟨w.heap.size, 0, none⟩ = some (.slice A1 c.weights.length c1) ∧ wx.cell? ⟨w.heap.size, 1, none⟩ = some (.slice A2 c.tests.length c2)) := fun wx hb => HN.out wx (HBR.out.trans (hb.mono (by omega)))
          have e9 : decide (K ≤ N9) = true := decide_eq_true HKN.out
          clear hIm hcc
          by_cases hm0 : 0 < c.tests.length
          · have em : decide ((0 : Int) < c.tests.length) = true := decide_eq_true (by omega)
            rw [if_pos hm0] at hAm
            injection hAm with a1 a2 a3
            subst a1
            subst a3
            have HA2 := Lib.hid a2
            rw [← a2] at H39K
            clear a2
            go_upto_region 17 with fail
            clear p0 p1
            obtain ⟨p0, p1⟩ := HN.out wr HBR.out
            go_region_held3 (fun wx => wx.cell? ⟨w.heap.size, 0, none⟩ = some (.slice A1 c.weights.length c1) ∧ wx.cell? ⟨w.heap.size, 1, none⟩ = some (.slice A2 c.tests.length c2)) (exact HKK.out _ (by repeat' (first | exact HB7 | exact HB9 | exact Below.refl _ _ | refine Below.drew ?_ | fail))) ((first
              | (go_at_call 39; (with_reducible refine (H39K.out _ (Below.refl _ _).drew).mono ?_); rintro e w7 ⟨Ag, cg, rfl, hF7, hb7⟩; have HB7 : Below wr.heap.size wr w7 := (Below.refl _ _).drew.trans hb7; have HF7 := Lib.hid hF7; clear hF7 hb7)
              | (go_at_call 38; (with_reducible refine (H38M.out _ Ag cg (HBR.out.trans (HB7.mono (by omega))) HF7.out).mono ?_); rintro e w9 ⟨rfl, hb9⟩; have HB9 : Below wr.heap.size wr w9 := HB7.trans (hb9.mono HB7.size); clear hb9)
              | (fail)))
            have HBZ : Hid (Below (w.heap.size + 1) (w.alloc (.cells #[.slice A1 c.weights.length c1, .slice A2 c.tests.length c2] 36)) w9) := HBR.out.trans (HB9.mono (by omega))
            go_wp2_with ((go_at_call 18; (with_reducible refine (HW.out _ HBZ.out).mono ?_); rintro e w8 ⟨rfl, hb8⟩))
            go_ret
            exact ⟨rfl, (hb1.trans (HBZ.out.mono (by omega))).trans (hb8.mono (by have := HBZ.out.size; omega))⟩
          · have em : decide ((0 : Int) < c.tests.length) = false := decide_eq_false (by omega)
            rw [if_neg hm0] at hAm
            injection hAm with a1 a2 a3
            subst a1
            subst a3
            rw [← a2] at H39K
            clear a2
            go_upto_region 17 with fail
            clear p0 p1
            obtain ⟨p0, p1⟩ := HN.out wr HBR.out
            go_region_held3 (fun wx => wx.cell? ⟨w.heap.size, 0, none⟩ = some (.slice A1 c.weights.length c1) ∧ wx.cell? ⟨w.heap.size, 1, none⟩ = some (.slice A2 c.tests.length c2)) (exact HKK.out _ (by repeat' (first | exact HB7 | exact HB9 | exact Below.refl _ _ | refine Below.drew ?_ | fail))) ((first
              | (go_at_call 39; (with_reducible refine (H39K.out _ (Below.refl _ _).drew).mono ?_); rintro e w7 ⟨Ag, cg, rfl, hF7, hb7⟩; have HB7 : Below wr.heap.size wr w7 := (Below.refl _ _).drew.trans hb7; have HF7 := Lib.hid hF7; clear hF7 hb7)
              | (go_at_call 38; (with_reducible refine (H38M.out _ Ag cg (HBR.out.trans (HB7.mono (by omega))) HF7.out).mono ?_); rintro e w9 ⟨rfl, hb9⟩; have HB9 : Below wr.heap.size wr w9 := HB7.trans (hb9.mono HB7.size); clear hb9)
              | (fail)))
            have HBZ : Hid (Below (w.heap.size + 1) (w.alloc (.cells #[.slice A1 c.weights.length c1, .slice A2 c.tests.length c2] 36)) w9) := HBR.out.trans (HB9.mono (by omega))
            go_wp2_with ((go_at_call 18; (with_reducible refine (HW.out _ HBZ.out).mono ?_); rintro e w8 ⟨rfl, hb8⟩))
            go_ret
            exact ⟨rfl, (hb1.trans (HBZ.out.mono (by omega))).trans (hb8.mono (by have := HBZ.out.size; omega))⟩
    · have hE1 : E0 = 0 := by simpa using hE
      have hNK := HD.out hE1
      subst hE1
      go_enter Tryd.func10, Tryd.ntmps10
      go_wp2_with (first
        | (go_at_call 19; (with_reducible refine H19.out.mono ?_); rintro e w2 ⟨rfl, hb2⟩; have HB2 : Hid (Below (w.heap.size + 1) (w.alloc (.cells #[.slice A1 c.weights.length c1, .slice A2 c.tests.length c2] 36)) w2) := hb2.mono (by omega); obtain ⟨r0, r1⟩ := HN.out w2 HB2.out; clear hb2)
        | (go_at_call 20; (with_reducible refine (H20.out _ HB2.out).mono ?_); rintro e w3 ⟨v3, rfl, hb3⟩; have HB3 : Hid (Below (w.heap.size + 1) (w.alloc (.cells #[.slice A1 c.weights.length c1, .slice A2 c.tests.length c2] 36)) w3) := HB2.out.trans (hb3.mono (by have := HB2.out.size; omega)); obtain ⟨s0, s1⟩ := HN.out w3 HB3.out; clear hb3)
        | (go_at_call 38; (with_reducible refine (H38.out _ HB3.out).mono ?_); rintro e w4 ⟨rfl, hb4⟩; have HB4 : Hid (Below (w.heap.size + 1) (w.alloc (.cells #[.slice A1 c.weights.length c1, .slice A2 c.tests.length c2] 36)) w4) := HB3.out.trans (hb4.mono (by have := HB3.out.size; omega)); clear hb4))
      clear p0 p1 r0 r1 s0 s1 H20 H38 H19 HB2 HB3
      have hs4 := HB4.out.size
      rw [hsz] at hs4
      go_loopw [12, 11] (fun vi va wr => ∃ (k cap : Nat) (A : Option Addr), k ≤ c.weights.length ∧ vi = .int .i64 k ∧ va = .slice A k cap ∧ k ≤ cap ∧ Hid (OutI wr w4.heap.size va ((List.range k).map fun (i : Nat) => (i : Int))) ∧ Hid (Below w4.heap.size w4 wr)) (fun vi _ _ => c.weights.length - (intOf vi).toNat)
      case atStart => exact ⟨0, 0, none, Nat.zero_le _, rfl, rfl, Nat.le_refl _, OutI.nil _ _, Below.refl _ _⟩
      case round =>
        obtain ⟨k, cap, A, hk, rfl, rfl, hkc, HO, HB⟩ := hrel
        rename World => wr
        have HBR : Hid (Below (w.heap.size + 1) (w.alloc (.cells #[.slice A1 c.weights.length c1, .slice A2 c.tests.length c2] 36)) wr) := HB4.out.trans (HB.out.mono hs4)
        have hsr := HB.out.size
        obtain ⟨p0, p1⟩ := HN.out wr HBR.out
        by_cases hlt : k < c.weights.length
        · have HQ0 := Lib.hid (newcell wr #[.int .i64 k] 3 0)
          have HO6 : Hid (OutI (wr.alloc (.cells #[.int .i64 k] 3)) w4.heap.size (.slice A k cap) ((List.range k).map fun (i : Nat) => (i : Int))) := World.ownsRow.alloc HO.out _
          have hs6 : w4.heap.size ≤ (wr.alloc (.cells #[.int .i64 k] 3)).heap.size := by simp; omega
          have HVL := Lib.hid (own_block_lt HO.out)
          have hll : ((List.range k).map fun (i : Nat) => (i : Int)).length ≤ 1000000 := by rw [List.length_map, List.length_range]; omega
          go_wp2_with (at_builtin; refine app_int _ rfl _ _ rfl w4.heap.size _ _ rfl HO6.out wr.heap.size k rfl HQ0.out hll hs6 ?_; intro v7 w7 hO7 hg7; have HO7 := Lib.hid hO7; have HG7 := Lib.hid hg7; obtain ⟨A7, cap7, hv7, hc7, _⟩ := hO7.reads; rw [show ((List.range k).map (fun (i : Nat) => (i : Int)) ++ [(k : Int)]).length = k + 1 by simp] at hv7 hc7; have HV7 := Lib.hid hv7; have HC7 := Lib.hid hc7; clear hO7 hg7 hv7 hc7)
          go_roundw
          case rel => exact ⟨k + 1, cap7, A7, by omega, by go_num, HV7.out, HC7.out, by { show OutI _ _ _ _; rw [List.range_succ, List.map_append]; exact HO7.out }, (HB.out.alloc (by omega) _).grown HG7.out hs6 (fun g hg => (HVL.out g hg).1)⟩
          case measure => simp [intOf]; omega
        · obtain rfl : k = c.weights.length := by omega
          have HOF : Hid (OutI wr w4.heap.size (.slice A (bitsI (fullS c)).length cap) (bitsI (fullS c))) := by
            show OutI _ _ _ _
            rw [HBN.out]
            rw [HFULL.out]
            exact HO.out
          have hkc2 : (bitsI (fullS c)).length ≤ cap := by rw [HBN.out]; exact hkc
          have hcc := HC.out wr HBR.out
          have HIM : Hid (∃ (Am : Option Addr) (cm : Nat), (if 0 < c.tests.length then Value.slice Ao ord.length co else .slice none 0 0) = .slice Am ordM.length cm ∧ ∀ wx, Below wr.heap.size wr wx → IntsA wx w.heap.size Am ordM) := by
            show ∃ _, _
            rw [← HORD.out]
            by_cases e : 0 < c.tests.length
            · rw [if_pos e, if_pos e]
              exact ⟨Ao, co, rfl, fun wx hb => hcc.2.2.2.2.keep (hb.mono (by omega))⟩
            · rw [if_neg e, if_neg e]
              exact ⟨none, 0, rfl, fun wx _ => ints_nil _ _ _⟩
          obtain ⟨Am, cm, hAm, hIm⟩ := HIM.out
          have HIMM := Lib.hid hIm
          have H39K : Hid (∀ wx, Below wr.heap.size wr wx → Calls Tryd.prog 39 #[.agg #[.slice A1 c.weights.length c1, .slice A2 c.tests.length c2], .slice A c.weights.length cap, .slice Am ordM.length cm, .slice none 0 0] wx fun e w' => ∃ Ag cg, e = .returned (.slice Ag G.length cg) ∧ ForksA w' w'.heap.size Ag G ∧ Below wx.heap.size wx w') := fun wx hb => by
            have h9 := H39.out wx A cap w4.heap.size Am cm (HBR.out.trans (hb.mono (by omega))) (own_below HOF.out hb (fun g hg => (own_block_lt HOF.out g hg).2)) hkc2 (HIMM.out wx hb)
            rw [HBN.out] at h9
            exact h9
          have HKK : Hid (∀ wx, Below wr.heap.size wr wx → wx.cell? ⟨w.heap.size, 0, none⟩ = some (.slice A1 c.weights.length c1) ∧ wx.cell? ⟨w.heap.size, 1, none⟩ = some (.slice A2 c.tests.length c2)) := fun wx hb => HN.out wx (HBR.out.trans (hb.mono (by omega)))
          have e9 : decide (K ≤ N9) = true := decide_eq_true HKN.out
          clear hIm hcc
          by_cases hm0 : 0 < c.tests.length
          · have em : decide ((0 : Int) < c.tests.length) = true := decide_eq_true (by omega)
            rw [if_pos hm0] at hAm
            injection hAm with a1 a2 a3
            subst a1
            subst a3
            have HA2 := Lib.hid a2
            rw [← a2] at H39K
            clear a2
            go_upto_region 17 with fail
            clear p0 p1
            obtain ⟨p0, p1⟩ := HN.out wr HBR.out
            go_region_held3 (fun wx => wx.cell? ⟨w.heap.size, 0, none⟩ = some (.slice A1 c.weights.length c1) ∧ wx.cell? ⟨w.heap.size, 1, none⟩ = some (.slice A2 c.tests.length c2)) (exact HKK.out _ (by repeat' (first | exact HB7 | exact HB9 | exact Below.refl _ _ | refine Below.drew ?_ | fail))) ((first
              | (go_at_call 39; (with_reducible refine (H39K.out _ (Below.refl _ _).drew).mono ?_); rintro e w7 ⟨Ag, cg, rfl, hF7, hb7⟩; have HB7 : Below wr.heap.size wr w7 := (Below.refl _ _).drew.trans hb7; have HF7 := Lib.hid hF7; clear hF7 hb7)
              | (go_at_call 38; (with_reducible refine (H38M.out _ Ag cg (HBR.out.trans (HB7.mono (by omega))) HF7.out).mono ?_); rintro e w9 ⟨rfl, hb9⟩; have HB9 : Below wr.heap.size wr w9 := HB7.trans (hb9.mono HB7.size); clear hb9)
              | (fail)))
            have HBZ : Hid (Below (w.heap.size + 1) (w.alloc (.cells #[.slice A1 c.weights.length c1, .slice A2 c.tests.length c2] 36)) w9) := HBR.out.trans (HB9.mono (by omega))
            go_wp2_with ((go_at_call 18; (with_reducible refine (HW.out _ HBZ.out).mono ?_); rintro e w8 ⟨rfl, hb8⟩))
            go_ret
            exact ⟨rfl, (hb1.trans (HBZ.out.mono (by omega))).trans (hb8.mono (by have := HBZ.out.size; omega))⟩
          · have em : decide ((0 : Int) < c.tests.length) = false := decide_eq_false (by omega)
            rw [if_neg hm0] at hAm
            injection hAm with a1 a2 a3
            subst a1
            subst a3
            rw [← a2] at H39K
            clear a2
            go_upto_region 17 with fail
            clear p0 p1
            obtain ⟨p0, p1⟩ := HN.out wr HBR.out
            go_region_held3 (fun wx => wx.cell? ⟨w.heap.size, 0, none⟩ = some (.slice A1 c.weights.length c1) ∧ wx.cell? ⟨w.heap.size, 1, none⟩ = some (.slice A2 c.tests.length c2)) (exact HKK.out _ (by repeat' (first | exact HB7 | exact HB9 | exact Below.refl _ _ | refine Below.drew ?_ | fail))) ((first
              | (go_at_call 39; (with_reducible refine (H39K.out _ (Below.refl _ _).drew).mono ?_); rintro e w7 ⟨Ag, cg, rfl, hF7, hb7⟩; have HB7 : Below wr.heap.size wr w7 := (Below.refl _ _).drew.trans hb7; have HF7 := Lib.hid hF7; clear hF7 hb7)
              | (go_at_call 38; (with_reducible refine (H38M.out _ Ag cg (HBR.out.trans (HB7.mono (by omega))) HF7.out).mono ?_); rintro e w9 ⟨rfl, hb9⟩; have HB9 : Below wr.heap.size wr w9 := HB7.trans (hb9.mono HB7.size); clear hb9)
              | (fail)))
            have HBZ : Hid (Below (w.heap.size + 1) (w.alloc (.cells #[.slice A1 c.weights.length c1, .slice A2 c.tests.length c2] 36)) w9) := HBR.out.trans (HB9.mono (by omega))
            go_wp2_with ((go_at_call 18; (with_reducible refine (HW.out _ HBZ.out).mono ?_); rintro e w8 ⟨rfl, hb8⟩))
            go_ret
            exact ⟨rfl, (hb1.trans (HBZ.out.mono (by omega))).trans (hb8.mono (by have := HBZ.out.size; omega))⟩
end Go.Proofs.YtonpemikodajdaaDoor
