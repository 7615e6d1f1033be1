/- Walk: Spare: ours. Printed by gen_qo8.py. -/
import Derived.Test.YtegclodchhcbaaaQa
import Derived.Test.YtegclodchhcbaaaCk
namespace Go.Proofs.Ytegclodchhcbaaa
open Go.RowKit

set_option maxRecDepth 100000 in
theorem step_c73 {ops : Array Oper} {o : Oper} {a : Act} {Q' : Act → World → Prop} {Q : Exit → Act → World → Prop} {E : Prop} (w : World) (hg : o.guard = none) (x : Operand) (ts : Array TypeId) (ho : o.op = .call { callee := .value (.func 73), args := #[x], argTypes := ts }) (u : Value) (R : Value → World → Prop)
    (hx : a.eval x = u) (hC : Calls Try.prog 73 #[u] w fun e w' => ∃ r, e = .returned r ∧ R r w')
    (hK : ∀ r w', R r w' → Q' (a.put o.dst r) w') : if Region.wanted o (yielded ops a.tmps) = true then Oper.wp Try.prog o a w Q' Q else E := by
  rw [if_pos (by simp [Region.wanted, hg])]
  have hf : a.eval (.func 73) = .func (.func 73) #[] #[] := rfl
  unfold Oper.wp execOp
  simp only [ho, resolve, invoke, Sem.run_bind, List.map_toArray, List.map_cons, List.map_nil, hx, hf]
  simp [go_sem]
  refine hC.mono ?_
  rintro e w2 ⟨r, rfl, hR⟩
  exact hK r w2 hR
/-- no way to the users -/
def zcol (c : Tab) (j : Nat) : Tab := fun i k => if k = 21 ∧ i < j then 0 else c i k
theorem zcol_step (c : Tab) (j : Nat) : upd (zcol c j) j 21 0 = zcol c (j + 1) := by
  funext i k
  unfold upd zcol
  by_cases hk : k = 21
  · by_cases hi : i = j
    · rw [if_pos ⟨hi, hk⟩, if_pos ⟨hk, by omega⟩]
    · rw [if_neg (fun h => hi h.1)]
      by_cases hl : i < j
      · rw [if_pos ⟨hk, hl⟩, if_pos ⟨hk, by omega⟩]
      · rw [if_neg (fun h => hl h.2), if_neg (fun h => hi (by have := h.2; omega))]
  · rw [if_neg (fun h => hk h.2), if_neg (fun h => hk h.1), if_neg (fun h => hk h.1)]
theorem TabA.congr {w : World} {nb : Nat} {c d : Tab} (h : TabA w nb c) (he : ∀ i k, i < 22 → k < 22 → c i k = d i k) : TabA w nb d := by
  obtain ⟨C, h1, h2, h3⟩ := h
  exact ⟨C, h1, h2, fun i k hi hk => by rw [h3 i k hi hk, he i k hi hk]⟩
set_option maxRecDepth 100000 in
set_option maxHeartbeats 8000000 in
theorem oSpare_any (g : MGrid) (A1 A2 A3 : Option Addr) (c1 c2 c3 : Nat) (u : Int) (w : World) (h : GridA w w.heap.size g A1 A2 A3) :
    Calls Try.prog 39 #[.agg (gridC g A1 A2 A3 c1 c2 c3), .int .i64 u] w (SpareP g u w) := by
  obtain ⟨Z, hZ⟩ : ∃ Z, Z = Array.replicate 484 (Value.int .i64 0) := ⟨_, rfl⟩
  have hz86 := zero86.1
  have hZS : Z.size = 484 := by rw [hZ]; simp
  rw [← hZ] at hz86
  clear hZ
  obtain ⟨w1, hw1⟩ : ∃ w1, w.alloc (.cells #[.int .i64 g.nodes, .slice A1 g.lines.length c1, .slice A2 g.srcs.length c2, .slice A3 g.users.length c3] 26) = w1 := ⟨_, rfl⟩
  have hb1 : Below w.heap.size w w1 := by rw [← hw1]; exact (Below.refl _ _).alloc (Nat.le_refl _) _
  have hs1 : w1.heap.size = w.heap.size + 1 := by rw [← hw1]; simp
  have hx1 : w1.heap[w.heap.size]? = some (.cells #[.int .i64 g.nodes, .slice A1 g.lines.length c1, .slice A2 g.srcs.length c2, .slice A3 g.users.length c3] 26 (0, 0)) := by rw [← hw1]; exact heap_alloc_new w _
  have HX : Hid (∀ W, Below w1.heap.size w1 W → Below w.heap.size w W ∧ W.cell? ⟨w.heap.size, 0, none⟩ = some (.int .i64 g.nodes) ∧ W.cell? ⟨w.heap.size, 1, none⟩ = some (.slice A1 g.lines.length c1) ∧ W.cell? ⟨w.heap.size, 2, none⟩ = some (.slice A2 g.srcs.length c2) ∧ W.cell? ⟨w.heap.size, 3, none⟩ = some (.slice A3 g.users.length c3)) := fun W hW => by
    have h1 := (hW.block w.heap.size (by omega)).trans hx1
    exact ⟨hb1.trans (hW.mono (by omega)), cell_of_row W _ 0 _ _ _ h1, cell_of_row W _ 1 _ _ _ h1, cell_of_row W _ 2 _ _ _ h1, cell_of_row W _ 3 _ _ _ h1⟩
  have HG : Hid (∀ W, Below w.heap.size w W → GridA W W.heap.size g A1 A2 A3) := fun W hW => (h.keep hW).more hW.size
  obtain ⟨_, p0, p1, p2, p3⟩ := HX.out w1 (Below.refl _ _)
  obtain ⟨E, hE⟩ : ∃ E, checkG g = E := ⟨_, rfl⟩
  have HE := Lib.hid hE
  have HCK := Lib.hid (fun W hW => check_any g A1 A2 A3 c1 c2 c3 W (HG.out W hW) hE)
  have HB0 : Hid (Below w1.heap.size w1 w1) := Below.refl _ _
  have HS1 := Lib.hid hs1
  unfold gridC at HCK ⊢
  clear h hb1 hx1 hs1
  by_cases hz : E = 0
  · subst hz
    obtain ⟨n, hgo⟩ := checkG_ok hE
    have hnu := hgo.nu
    obtain ⟨b, hb⟩ : ∃ b, inB u 0 ((g.users.length : Int) - 1) = b := ⟨_, rfl⟩
    have HIN := Lib.hid (fun W => within_any u 0 ((g.users.length : Int) - 1) W hb)
    rcases b
    · have HU : Hid (¬ (0 ≤ u ∧ u < (g.users.length : Int))) := fun h => by
        rw [(inB_iff (n := u) (lo := 0) (hi := (g.users.length : Int) - 1)).2 ⟨h.1, by omega⟩] at hb
        cases hb
      clear hE hgo hb
      go_enter Try.func39, Try.ntmps39
      go_wp2_with (first
        | (go_at_call 35; refine (HCK.out _ (HX.out _ (Below.refl _ _)).1).mono ?_; rintro e w2 ⟨rfl, hb2⟩; have HB2 := Lib.hid hb2; clear hb2 p0 p1 p2 p3; obtain ⟨_, p0, p1, p2, p3⟩ := HX.out w2 HB2.out)
        | (go_at_call 69; refine (HIN.out _).mono ?_; rintro e w3 ⟨rfl, rfl⟩))
      go_ret2
      exact ⟨(HX.out _ HB2.out).1, .inr (.inl ⟨HE.out, HU.out, rfl⟩)⟩
    · have hu := inB_iff.1 hb
      obtain ⟨k, rfl⟩ : ∃ k : Nat, u = (k : Int) := ⟨u.toNat, by omega⟩
      have hk : k < g.users.length := by omega
      have HU : Hid (0 ≤ (k : Int) ∧ (k : Int) < (g.users.length : Int)) := by constructor <;> omega
      have HUS : Hid (∀ W, Below w1.heap.size w1 W → Calls Try.prog 73 #[.agg #[.int .i64 g.nodes, .slice A1 g.lines.length c1, .slice A2 g.srcs.length c2, .slice A3 g.users.length c3]] W fun e w' => ∃ r, e = .returned r ∧ ∃ Aw wc, r = .slice Aw g.users.length wc ∧ IntsA w' w'.heap.size Aw (allL g.users.length) ∧ Below W.heap.size W w') := fun W hW => (users_any g A1 A2 A3 c1 c2 c3 W (HG.out W (HX.out W hW).1) (by omega)).mono fun e w' ⟨A, c, he, hi, hb⟩ => ⟨_, he, A, c, rfl, hi, hb⟩
      have HLV : Hid (∀ W, Below w1.heap.size w1 W → Calls Try.prog 59 #[.agg #[.int .i64 g.nodes, .slice A1 g.lines.length c1, .slice A2 g.srcs.length c2, .slice A3 g.users.length c3], .slice none 0 0] W fun e w' => ∃ r, e = .returned r ∧ ∃ C, r = .agg C ∧ TabC C (srcsT [] 20 g.srcs (linesT [] g.lines zeroT g.lines.length) g.srcs.length) ∧ Below W.heap.size W w') := fun W hW => (live_any g n A1 A2 A3 c1 c2 c3 none 0 [] W (HG.out W (HX.out W hW).1) ⟨Nat.zero_le _, fun h => by simp at h⟩ hgo).mono fun _ _ ⟨⟨C, he, hC⟩, hb⟩ => ⟨_, he, C, rfl, hC, hb⟩
      obtain ⟨T, hT⟩ : ∃ T, usersT [] 21 g.users (allL g.users.length) (srcsT [] 20 g.srcs (linesT [] g.lines zeroT g.lines.length) g.srcs.length) g.users.length = T := ⟨_, rfl⟩
      have HJN : Hid (∀ C1, TabC C1 (srcsT [] 20 g.srcs (linesT [] g.lines zeroT g.lines.length) g.srcs.length) → ∀ W Aw wc, Below w1.heap.size w1 W → IntsA W W.heap.size Aw (allL g.users.length) → Calls Try.prog 60 #[.agg C1, .agg #[.int .i64 g.nodes, .slice A1 g.lines.length c1, .slice A2 g.srcs.length c2, .slice A3 g.users.length c3], .slice none 0 0, .slice Aw g.users.length wc] W fun e w' => ∃ r, e = .returned r ∧ ∃ C, r = .tuple #[.agg C, .int .i64 (powS g (allL g.users.length))] ∧ TabC C T ∧ Below W.heap.size W w') := fun C1 hC1 W Aw wc hW hi => by
        have := join_any C1 _ hC1 g n A1 A2 A3 c1 c2 c3 none 0 [] Aw wc (allL g.users.length) W (HG.out W (HX.out W hW).1) ⟨Nat.zero_le _, fun h => by simp at h⟩ hi hgo (allL_want' g) (by rw [allL_len]; omega) (hgo.liveBd (Nat.le_refl _))
        rw [show needS g (allL g.users.length) (allL g.users.length).length = powS g (allL g.users.length) from sumN_list (fun x => (userAt g x).power) _, allL_len, hT] at this
        exact this.mono fun _ _ ⟨⟨C, he, hC⟩, hb⟩ => ⟨_, he, C, rfl, hC, hb⟩
      have HBD : Hid (Bd T 109600000) := by
        have := hgo.ourBd (F := []) (e := 21) (b := 20) (allL_want' g) (by rw [allL_len]; omega) (Nat.le_refl _)
        rw [allL_len, hT] at this
        exact this
      have HFA : Hid (∀ x y, y ≠ 21 → T x y ≤ 9600000) := fun x y hy => by
        rw [← hT, usersT_far [] g.users _ _ hy]
        exact (hgo.liveBd (F := []) (b := 20) (Nat.le_refl _) x y).2
      have HCT : Hid (∀ S : Nat → Bool, S 20 = true → S 21 = false → cutN 22 T S = cutG g [] (allL g.users.length) S) := fun S h1 h2 => by
        have := cut_ourT (F := []) hgo (allL_want' g) (N := 22) (b := 20) (e := 21) (by have := hgo.few; omega) (by decide) (by decide) h1 h2
        unfold ourT at this
        rw [allL_len, hT] at this
        exact this
      have HGO := Lib.hid hgo
      have HK := Lib.hid hk
      clear hE hgo hb hT hu
      go_enter Try.func39, Try.ntmps39
      go_upto_region 6 with (first
        | (go_at_call 35; refine (HCK.out _ (HX.out _ (Below.refl _ _)).1).mono ?_; rintro e w2 ⟨rfl, hb2⟩; have HB2 : Below w1.heap.size w1 w2 := hb2; clear hb2 p0 p1 p2 p3; obtain ⟨_, p0, p1, p2, p3⟩ := HX.out w2 HB2)
        | (go_at_call 69; refine (HIN.out _).mono ?_; rintro e w3 ⟨rfl, rfl⟩))
      rename World => w3
      have HB2D : Below w1.heap.size w1 w3.drew := HB2.drew
      have hl2 : w.heap.size < w3.heap.size := by have := HB2.size; have := HS1.out; omega
      have HB2A : Below w1.heap.size w1 (w3.alloc (.cells Z 86)).drew := (HB2.alloc HB2.size _).drew
      have hs1 := HS1.out
      go_cut [7, 8] (fun vn vm wx => ∃ nb, vn = .pointer (some ⟨nb, 0, none⟩) ∧ vm = .int .i64 (powS g (allL g.users.length)) ∧ Hid (NetR w1 T nb wx))
      case first =>
        go_region_law (first
          | (refine step_c59 _ (by rfl) _ _ _ (by rfl) _ _ _ (by rfl) (by rfl) (HLV.out _ (by first | exact HB2D | exact HB2A)) ?_; rintro r5 w5 ⟨C1, rfl, hC1, hb5⟩; have HC1 := Lib.hid hC1; (try have HZ5 := Lib.hid ((hb5.block w3.heap.size (by simp)).trans (show (w3.alloc (.cells Z 86)).drew.heap[w3.heap.size]? = _ from heap_alloc_new w3 (.cells Z 86)))); have HB5 : Below w1.heap.size w1 w5 := (by first | exact HB2D.trans (hb5.mono HB2D.size) | exact HB2A.trans (hb5.mono HB2A.size)); obtain ⟨_, k0, k1, k2, k3⟩ := HX.out w5 HB5; have hl5 : w.heap.size < w5.heap.size := (by have := HB5.size; omega); clear hb5 hC1)
          | (refine step_c73 _ (by rfl) _ _ (by rfl) _ _ (by rfl) (HUS.out _ (by first | exact HB5 | exact HB5.alloc HB5.size _)) ?_; rintro r4 w4 ⟨Aw, wc, rfl, hi4, hb4⟩; have HI4 := Lib.hid hi4; (try have HZ4 := Lib.hid ((hb4.block w5.heap.size (by simp)).trans (heap_alloc_new w5 (.cells Z 86)))); (try have HZ4 := Lib.hid ((hb4.block w3.heap.size (lt_of_cells HZ5.out)).trans HZ5.out)); have HB4 : Below w1.heap.size w1 w4 := (by first | exact HB5.trans (hb4.mono HB5.size) | exact (HB5.alloc HB5.size _).trans (hb4.mono (HB5.alloc HB5.size _).size)); obtain ⟨_, j0, j1, j2, j3⟩ := HX.out w4 HB4; have hl4 : w.heap.size < w4.heap.size := (by have := HB4.size; omega); clear hb4 hi4)
          | (refine step_c60 _ (by rfl) _ _ _ _ _ (by rfl) _ _ _ _ _ (by rfl) (by rfl) (by rfl) (by rfl) (HJN.out C1 HC1.out _ Aw wc (by first | exact HB4 | exact HB4.alloc HB4.size _) (by first | exact HI4.out | exact (HI4.out.below ((Below.refl _ _).alloc (Nat.le_refl _) _) (Nat.le_refl _)).more (by simp))) ?_; rintro r6 w6 ⟨C, rfl, hC, hb6⟩; have HC := Lib.hid hC; (try have HZ6 := Lib.hid ((hb6.block w4.heap.size (by simp)).trans (heap_alloc_new w4 (.cells Z 86)))); (try have HZ6 := Lib.hid ((hb6.block _ (lt_of_cells HZ4.out)).trans HZ4.out)); have HB6 : Below w1.heap.size w1 w6 := (by first | exact HB4.trans (hb6.mono HB4.size) | exact (HB4.alloc HB4.size _).trans (hb6.mono (HB4.alloc HB4.size _).size)); have hcs : C.size = 484 := HC.out.1; have hst0 := store86_new w6 HC.out hZS; have HNR0 := Lib.hid (NetR.new HC.out HB6); (try have hst1 := store86_at HC.out HZ6.out hZS); (try have HNR1 := Lib.hid (NetR.of HC.out HB6 HB2.size HZ6.out)); (try have HNR1 := Lib.hid (NetR.of HC.out HB6 HB5.size HZ6.out)); (try have HNR1 := Lib.hid (NetR.of HC.out HB6 HB4.size HZ6.out)); clear hb6 hC)
          | fail)
        all_goals
          go_wp2_with fail
          go_meet
        all_goals (with_reducible first | exact ⟨_, rfl, rfl, HNR0⟩ | exact ⟨_, rfl, rfl, HNR1⟩)
      case rest =>
        obtain ⟨nb, rfl, rfl, HN⟩ := hcut
        rename World => wx
        have HFW := Lib.hid (flow_any nb T wx HN.out.1 (fun x y => (HBD.out x y).1) (fun x y => by have := HBD.out x y; omega) (by have := capSum_le HBD.out; omega))
        clear p0 p1 p2 p3 hz86 hZS HLV HJN HUS HCK HIN
        have hnf := HGO.out.few
        by_cases hc : carG g [] (allL g.users.length)
        · have HQ : Hid (∀ c' sum R, Most 22 T 20 21 sum R → LeftF 22 T 20 21 c' sum → sum = powS g (allL g.users.length)) := fun c' sum R hm _ => ((hm.grid HCT.out HGO.out (allL_want' g) (by omega) (by omega) (by omega) (by decide)).car HGO.out).2 hc
          have HC := Lib.hid hc
          clear hc
          go_upto_region 9 with (go_at_call 61; refine HFW.out.mono ?_; rintro e w7 ⟨sum, c', R, rfl, ht7, hl7, hm7, hs7⟩; obtain rfl := HQ.out c' sum R hm7 hl7; have HT7 := Lib.hid ht7; have HL7 := Lib.hid hl7; have HB7 : Hid (Below w1.heap.size w1 w7) := HN.out.2.1.trans (hs7.below HN.out.2.2 HN.out.2.1.size); clear hm7 hs7 ht7 hl7)
          have HTZ : Hid (TabA w7 nb (zcol c' 0)) := by
            show TabA _ _ _
            have : zcol c' 0 = c' := by
              funext i k
              unfold zcol
              rw [if_neg (fun h => absurd h.2 (by omega))]
            rw [this]
            exact HT7.out
          have HNB := Lib.hid HN.out.2.2
          clear HT7 HFW HN HQ
          go_wp2_with fail
          go_loopw [34] (fun vi wr => ∃ j : Nat, vi = .int .i64 j ∧ j ≤ 22 ∧ Hid (TabA wr nb (zcol c' j)) ∧ Hid (Below w1.heap.size w1 wr)) (fun vi _ => 22 - (intOf vi).toNat)
          case atStart => exact ⟨0, rfl, by decide, HTZ, HB7⟩
          case round =>
            clear HTZ HB7
            obtain ⟨j, rfl, hj, HT, HB⟩ := hrel
            rename World => wr
            by_cases hlt : j < 22
            · have HJ := Lib.hid hlt
              have cf := HT.out.fr (j * 22 + 21)
              have ct := HT.out.cell hlt (k := 21) (by decide)
              have HT8 : Hid (∀ W, W = wr.setCell ⟨nb, j * 22 + 21, none⟩ (.int .i64 0) → TabA W nb (zcol c' (j + 1)) ∧ Below w1.heap.size w1 W) := fun W hW => by
                subst hW
                rw [← zcol_step]
                exact ⟨HT.out.set (by decide) 0, HB.out.setCell (p := ⟨nb, j * 22 + 21, none⟩) HNB.out _⟩
              go_wp2_with fail
              go_roundw
              case rel => exact ⟨j + 1, by go_num, HJ.out, (HT8.out _ rfl).1, (HT8.out _ rfl).2⟩
              case measure => simp [intOf]; have := HJ.out; omega
            · obtain rfl : j = 22 := by omega
              obtain ⟨_, p0, p1, p2, p3⟩ := HX.out wr HB.out
              obtain ⟨f, lb, lo, hfe, hA, hlb, f0, f1, f2⟩ := (HG.out wr (HX.out wr HB.out).1).us.at_ HK.out
              subst hA
              obtain ⟨hfa, hf1, hf2⟩ := HGO.out.user f (by rw [← hfe]; exact getD_in HK.out dUser)
              obtain ⟨a, ha⟩ : ∃ a : Nat, f.node = (a : Int) := ⟨f.node.toNat, by omega⟩
              have ha22 : a < 22 := by omega
              rw [ha] at f0
              have cf := HT.out.fr (a * 22 + 21)
              have ct := HT.out.cell ha22 (k := 21) (by decide)
              have HAE : Hid ((g.users.getD k dUser).node.toNat = a) := by show _ = _; rw [hfe, ha]; rfl
              have HBS : Hid (Bd (spareT c' a) 200000000) := fun i q => by
                unfold spareT
                split
                · split <;> omega
                · rename_i hq
                  have h1 := HL7.out.pair i q
                  have h2 := HL7.out.nn q i
                  have h3 := HL7.out.nn i q
                  have h4 := HFA.out i q hq
                  have h5 := HBD.out q i
                  omega
              have HT8 : Hid (∀ W, W = wr.setCell ⟨nb, a * 22 + 21, none⟩ (.int .i64 600000) → TabA W nb (spareT c' a) ∧ Below w1.heap.size w1 W) := fun W hW => by
                subst hW
                refine ⟨(HT.out.set (i := a) (k := 21) (by decide) 600000).congr fun i q hi hq => ?_, HB.out.setCell (p := ⟨nb, a * 22 + 21, none⟩) HNB.out _⟩
                unfold upd zcol spareT
                by_cases h1 : q = 21
                · rw [if_pos h1]
                  by_cases h2 : i = a
                  · rw [if_pos ⟨h2, h1⟩, if_pos h2]
                  · rw [if_neg (fun h => h2 h.1), if_neg h2, if_pos ⟨h1, hi⟩]
                · rw [if_neg (fun h => h1 h.2), if_neg (fun h => h1 h.1), if_neg h1]
              have HFW := Lib.hid (fun W hW => flow_any nb (spareT c' a) W (HT8.out W hW).1 (fun x y => (HBS.out x y).1) (fun x y => (HBS.out x y).2) (by have := capSum_le HBS.out; omega))
              clear hfe hfa ha
              go_wp2_with (go_at_call 61; refine (HFW.out _ rfl).mono ?_; rintro e w8 ⟨sum2, c2, R2, rfl, _, _, hm8, hs8⟩; have HM8 := Lib.hid hm8; have HB8 : Hid (Below w1.heap.size w1 w8) := (HT8.out _ rfl).2.trans (hs8.below HNB.out (HT8.out _ rfl).2.size); clear hm8 hs8)
              go_ret2
              have hsp := spare_ok HGO.out HK.out HCT.out HC.out HL7.out (by rw [HAE.out]; exact HM8.out)
              exact ⟨(HX.out _ HB8.out).1, .inr (.inr (.inr ⟨HE.out, HU.out, HC.out, sum2, ⟨hsp.1.1, hsp.1.2, fun _ => by rw [Int.toNat_natCast]; exact (hsp.2 _).2 (Int.le_refl _), fun _ h => by rw [Int.toNat_natCast] at h; have := (hsp.2 _).1 h; omega⟩, rfl⟩))⟩
        · have HQ : Hid (∀ c' sum R, Most 22 T 20 21 sum R → LeftF 22 T 20 21 c' sum → sum < powS g (allL g.users.length)) := fun c' sum R hm _ => by
            have hmg := hm.grid HCT.out HGO.out (allL_want' g) (by omega) (by omega) (by omega) (by decide)
            have h1 := hmg.le (fun _ => true)
            have h2 := cut_top HGO.out [] (allL g.users.length)
            have h3 : sum ≠ powS g (allL g.users.length) := fun h => hc ((hmg.car HGO.out).1 h)
            omega
          have HC := Lib.hid hc
          clear hc
          go_wp2_with (go_at_call 61; refine HFW.out.mono ?_; rintro e w7 ⟨sum, c', R, rfl, ht7, hl7, hm7, hs7⟩; have hlt := HQ.out c' sum R hm7 hl7; have HB7 : Hid (Below w1.heap.size w1 w7) := HN.out.2.1.trans (hs7.below HN.out.2.2 HN.out.2.1.size); clear hm7 hs7 ht7 hl7)
          go_ret2
          exact ⟨(HX.out _ HB7.out).1, .inr (.inr (.inl ⟨HE.out, HU.out, HC.out, rfl⟩))⟩
  · have hz' : (E != 0) = true := by simpa using hz
    have HZN : Hid (E ≠ 0) := hz
    clear hE hz
    go_enter Try.func39, Try.ntmps39
    go_wp2_with (go_at_call 35; refine (HCK.out _ (HX.out _ (Below.refl _ _)).1).mono ?_; rintro e w2 ⟨rfl, hb2⟩; have HB2 := Lib.hid hb2; clear hb2 p0 p1 p2 p3)
    go_ret2
    exact ⟨(HX.out _ HB2.out).1, .inl ⟨by rw [HE.out]; exact HZN.out, by rw [HE.out]; rfl⟩⟩
end Go.Proofs.Ytegclodchhcbaaa
