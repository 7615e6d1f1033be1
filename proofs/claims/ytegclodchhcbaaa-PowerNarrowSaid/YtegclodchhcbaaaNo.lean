/- Walk: Narrow: ours. Printed by gen_no8.py. -/
import Derived.Test.YtegclodchhcbaaaNp
import Derived.Test.YtegclodchhcbaaaNr
import Derived.Test.YtegclodchhcbaaaQo
namespace Go.Proofs.Ytegclodchhcbaaa
open Go.RowKit

set_option maxRecDepth 100000 in
set_option maxHeartbeats 8000000 in
theorem oNarrow_any (g : MGrid) (A1 A2 A3 : Option Addr) (c1 c2 c3 : Nat) (w : World) (h : GridA w w.heap.size g A1 A2 A3) :
    Calls Try.prog 42 #[.agg (gridC g A1 A2 A3 c1 c2 c3)] w (NarrowP g w) := by
  obtain ⟨Z, hZ⟩ : ∃ Z, Z = Array.replicate 484 (Value.int .i64 0) := ⟨_, rfl⟩
  have hz86 := zero86.1
  have hZS : Z.size = 484 := by rw [hZ]; simp
  rw [← hZ] at hz86
  clear hZ
  obtain ⟨w1, hw1⟩ : ∃ w1, w.alloc (.cells #[.int .i64 g.nodes, .slice A1 g.lines.length c1, .slice A2 g.srcs.length c2, .slice A3 g.users.length c3] 26) = w1 := ⟨_, rfl⟩
  have hb1 : Below w.heap.size w w1 := by rw [← hw1]; exact (Below.refl _ _).alloc (Nat.le_refl _) _
  have hs1 : w1.heap.size = w.heap.size + 1 := by rw [← hw1]; simp
  have hx1 : w1.heap[w.heap.size]? = some (.cells #[.int .i64 g.nodes, .slice A1 g.lines.length c1, .slice A2 g.srcs.length c2, .slice A3 g.users.length c3] 26 (0, 0)) := by rw [← hw1]; exact heap_alloc_new w _
  have HX : Hid (∀ W, Below w1.heap.size w1 W → Below w.heap.size w W ∧ W.cell? ⟨w.heap.size, 0, none⟩ = some (.int .i64 g.nodes) ∧ W.cell? ⟨w.heap.size, 1, none⟩ = some (.slice A1 g.lines.length c1) ∧ W.cell? ⟨w.heap.size, 2, none⟩ = some (.slice A2 g.srcs.length c2) ∧ W.cell? ⟨w.heap.size, 3, none⟩ = some (.slice A3 g.users.length c3)) := fun W hW => by
    have h1 := (hW.block w.heap.size (by omega)).trans hx1
    exact ⟨hb1.trans (hW.mono (by omega)), cell_of_row W _ 0 _ _ _ h1, cell_of_row W _ 1 _ _ _ h1, cell_of_row W _ 2 _ _ _ h1, cell_of_row W _ 3 _ _ _ h1⟩
  have HG : Hid (∀ W, Below w.heap.size w W → GridA W W.heap.size g A1 A2 A3) := fun W hW => (h.keep hW).more hW.size
  obtain ⟨_, p0, p1, p2, p3⟩ := HX.out w1 (Below.refl _ _)
  obtain ⟨E, hE⟩ : ∃ E, checkG g = E := ⟨_, rfl⟩
  have HE := Lib.hid hE
  have HCK := Lib.hid (fun W hW => check_any g A1 A2 A3 c1 c2 c3 W (HG.out W hW) hE)
  have HB0 : Hid (Below w1.heap.size w1 w1) := Below.refl _ _
  have HS1 := Lib.hid hs1
  unfold gridC at HCK ⊢
  clear h hb1 hx1 hs1
  by_cases hz : E = 0
  · subst hz
    obtain ⟨n, hgo⟩ := checkG_ok hE
    have hnu := hgo.nu
    have hnl := hgo.nl
    have HUS : Hid (∀ W, Below w1.heap.size w1 W → Calls Try.prog 73 #[.agg #[.int .i64 g.nodes, .slice A1 g.lines.length c1, .slice A2 g.srcs.length c2, .slice A3 g.users.length c3]] W fun e w' => ∃ r, e = .returned r ∧ ∃ Aw wc, r = .slice Aw g.users.length wc ∧ IntsA w' w'.heap.size Aw (allL g.users.length) ∧ Below W.heap.size W w') := fun W hW => (users_any g A1 A2 A3 c1 c2 c3 W (HG.out W (HX.out W hW).1) (by omega)).mono fun e w' ⟨A, c, he, hi, hb⟩ => ⟨_, he, A, c, rfl, hi, hb⟩
    have HLV : Hid (∀ W, Below w1.heap.size w1 W → Calls Try.prog 59 #[.agg #[.int .i64 g.nodes, .slice A1 g.lines.length c1, .slice A2 g.srcs.length c2, .slice A3 g.users.length c3], .slice none 0 0] W fun e w' => ∃ r, e = .returned r ∧ ∃ C, r = .agg C ∧ TabC C (srcsT [] 20 g.srcs (linesT [] g.lines zeroT g.lines.length) g.srcs.length) ∧ Below W.heap.size W w') := fun W hW => (live_any g n A1 A2 A3 c1 c2 c3 none 0 [] W (HG.out W (HX.out W hW).1) ⟨Nat.zero_le _, fun h => by simp at h⟩ hgo).mono fun _ _ ⟨⟨C, he, hC⟩, hb⟩ => ⟨_, he, C, rfl, hC, hb⟩
    obtain ⟨T, hT⟩ : ∃ T, usersT [] 21 g.users (allL g.users.length) (srcsT [] 20 g.srcs (linesT [] g.lines zeroT g.lines.length) g.srcs.length) g.users.length = T := ⟨_, rfl⟩
    have HJN : Hid (∀ C1, TabC C1 (srcsT [] 20 g.srcs (linesT [] g.lines zeroT g.lines.length) g.srcs.length) → ∀ W Aw wc, Below w1.heap.size w1 W → IntsA W W.heap.size Aw (allL g.users.length) → Calls Try.prog 60 #[.agg C1, .agg #[.int .i64 g.nodes, .slice A1 g.lines.length c1, .slice A2 g.srcs.length c2, .slice A3 g.users.length c3], .slice none 0 0, .slice Aw g.users.length wc] W fun e w' => ∃ r, e = .returned r ∧ ∃ C, r = .tuple #[.agg C, .int .i64 (powS g (allL g.users.length))] ∧ TabC C T ∧ Below W.heap.size W w') := fun C1 hC1 W Aw wc hW hi => by
      have := join_any C1 _ hC1 g n A1 A2 A3 c1 c2 c3 none 0 [] Aw wc (allL g.users.length) W (HG.out W (HX.out W hW).1) ⟨Nat.zero_le _, fun h => by simp at h⟩ hi hgo (allL_want g) (by rw [allL_len]; omega) (hgo.liveBd (Nat.le_refl _))
      rw [show needS g (allL g.users.length) (allL g.users.length).length = powS g (allL g.users.length) from sumN_list (fun x => (userAt g x).power) _, allL_len, hT] at this
      exact this.mono fun _ _ ⟨⟨C, he, hC⟩, hb⟩ => ⟨_, he, C, rfl, hC, hb⟩
    have HBD : Hid (Bd T 109600000) := by
      have := hgo.ourBd (F := []) (e := 21) (b := 20) (allL_want g) (by rw [allL_len]; omega) (Nat.le_refl _)
      rw [allL_len, hT] at this
      exact this
    have HFA : Hid (∀ x y, y ≠ 21 → T x y ≤ 9600000) := fun x y hy => by
      rw [← hT, usersT_far [] g.users _ _ hy]
      exact (hgo.liveBd (F := []) (b := 20) (Nat.le_refl _) x y).2
    have HCT : Hid (∀ S : Nat → Bool, S 20 = true → S 21 = false → cutN 22 T S = cutG g [] (allL g.users.length) S) := fun S h1 h2 => by
      have := cut_ourT (F := []) hgo (allL_want g) (N := 22) (b := 20) (e := 21) (by have := hgo.few; omega) (by decide) (by decide) h1 h2
      unfold ourT at this
      rw [allL_len, hT] at this
      exact this
    have HGO := Lib.hid hgo
    clear hE hgo hT
    go_enter Try.func42, Try.ntmps42
    go_upto_region 4 with (go_at_call 35; refine (HCK.out _ (HX.out _ (Below.refl _ _)).1).mono ?_; rintro e w2 ⟨rfl, hb2⟩; have HB2 : Below w1.heap.size w1 w2 := hb2; clear hb2 p0 p1 p2 p3; obtain ⟨_, p0, p1, p2, p3⟩ := HX.out w2 HB2)
    have HB2D : Below w1.heap.size w1 w2.drew := HB2.drew
    have hl2 : w.heap.size < w2.heap.size := by have := HB2.size; have := HS1.out; omega
    have HB2A : Below w1.heap.size w1 (w2.alloc (.cells Z 86)).drew := (HB2.alloc HB2.size _).drew
    have hs1 := HS1.out
    go_cut [5, 6] (fun vn vm wx => ∃ nb, vn = .pointer (some ⟨nb, 0, none⟩) ∧ vm = .int .i64 (powS g (allL g.users.length)) ∧ Hid (NetR w1 T nb wx))
    case first =>
      go_region_law (first
        | (refine step_c59 _ (by rfl) _ _ _ (by rfl) _ _ _ (by rfl) (by rfl) (HLV.out _ (by first | exact HB2D | exact HB2A)) ?_; rintro r5 w5 ⟨C1, rfl, hC1, hb5⟩; have HC1 := Lib.hid hC1; (try have HZ5 := Lib.hid ((hb5.block w2.heap.size (by simp)).trans (show (w2.alloc (.cells Z 86)).drew.heap[w2.heap.size]? = _ from heap_alloc_new w2 (.cells Z 86)))); have HB5 : Below w1.heap.size w1 w5 := (by first | exact HB2D.trans (hb5.mono HB2D.size) | exact HB2A.trans (hb5.mono HB2A.size)); obtain ⟨_, k0, k1, k2, k3⟩ := HX.out w5 HB5; have hl5 : w.heap.size < w5.heap.size := (by have := HB5.size; omega); clear hb5 hC1)
        | (refine step_c73 _ (by rfl) _ _ (by rfl) _ _ (by rfl) (HUS.out _ (by first | exact HB5 | exact HB5.alloc HB5.size _)) ?_; rintro r4 w4 ⟨Aw, wc, rfl, hi4, hb4⟩; have HI4 := Lib.hid hi4; (try have HZ4 := Lib.hid ((hb4.block w5.heap.size (by simp)).trans (heap_alloc_new w5 (.cells Z 86)))); (try have HZ4 := Lib.hid ((hb4.block w2.heap.size (lt_of_cells HZ5.out)).trans HZ5.out)); have HB4 : Below w1.heap.size w1 w4 := (by first | exact HB5.trans (hb4.mono HB5.size) | exact (HB5.alloc HB5.size _).trans (hb4.mono (HB5.alloc HB5.size _).size)); obtain ⟨_, j0, j1, j2, j3⟩ := HX.out w4 HB4; have hl4 : w.heap.size < w4.heap.size := (by have := HB4.size; omega); clear hb4 hi4)
        | (refine step_c60 _ (by rfl) _ _ _ _ _ (by rfl) _ _ _ _ _ (by rfl) (by rfl) (by rfl) (by rfl) (HJN.out C1 HC1.out _ Aw wc (by first | exact HB4 | exact HB4.alloc HB4.size _) (by first | exact HI4.out | exact (HI4.out.below ((Below.refl _ _).alloc (Nat.le_refl _) _) (Nat.le_refl _)).more (by simp))) ?_; rintro r6 w6 ⟨C, rfl, hC, hb6⟩; have HC := Lib.hid hC; (try have HZ6 := Lib.hid ((hb6.block w4.heap.size (by simp)).trans (heap_alloc_new w4 (.cells Z 86)))); (try have HZ6 := Lib.hid ((hb6.block _ (lt_of_cells HZ4.out)).trans HZ4.out)); have HB6 : Below w1.heap.size w1 w6 := (by first | exact HB4.trans (hb6.mono HB4.size) | exact (HB4.alloc HB4.size _).trans (hb6.mono (HB4.alloc HB4.size _).size)); have hcs : C.size = 484 := HC.out.1; have hst0 := store86_new w6 HC.out hZS; have HNR0 := Lib.hid (NetR.new HC.out HB6); (try have hst1 := store86_at HC.out HZ6.out hZS); (try have HNR1 := Lib.hid (NetR.of HC.out HB6 HB2.size HZ6.out)); (try have HNR1 := Lib.hid (NetR.of HC.out HB6 HB5.size HZ6.out)); (try have HNR1 := Lib.hid (NetR.of HC.out HB6 HB4.size HZ6.out)); clear hb6 hC)
        | fail)
      all_goals
        go_wp2_with fail
        go_meet
      all_goals (with_reducible first | exact ⟨_, rfl, rfl, HNR0⟩ | exact ⟨_, rfl, rfl, HNR1⟩)
    case rest =>
      obtain ⟨nb, rfl, rfl, HN⟩ := hcut
      rename World => wx
      have HFW := Lib.hid (flow_any nb T wx HN.out.1 (fun x y => (HBD.out x y).1) (fun x y => by have := HBD.out x y; omega) (by have := capSum_le HBD.out; omega))
      clear p0 p1 p2 p3 hz86 hZS HLV HJN HUS HCK HFA
      have hnf := HGO.out.few
      go_upto_region 7 with (first
        | (go_at_call 61; refine HFW.out.mono ?_; rintro e w7 ⟨sum, c', R, rfl, ht7, hl7, hm7, hs7⟩; have HRC := Lib.hid (reach_any nb c' 20 w7 ht7 (by decide)); have HT7 := Lib.hid ht7; have HL7 := Lib.hid hl7; have HM7 := Lib.hid hm7; have HB7 : Hid (Below w1.heap.size w1 w7) := HN.out.2.1.trans (hs7.below HN.out.2.2 HN.out.2.1.size); clear hm7 hs7 ht7 hl7)
        | (go_at_call 67; refine HRC.out.mono ?_; rintro e w5 ⟨⟨C, back, rfl, hC, hBK⟩, hb5⟩; have HC := Lib.hid hC; have HBK := Lib.hid hBK; have HB5 := Lib.hid hb5; clear hC hBK hb5)
        | (refine wpList_store_row rfl 83 _ _ rfl w5.heap.size C rfl rfl 83 _ (heap_alloc_new w5 _) HC.out.sz (by rw [HC.out.1]; rfl) HC.out.one ?_; rw [World.setRow_alloc_new])
        | fail)
      obtain ⟨w9, hw9⟩ : ∃ w9, w5.alloc (.cells C 83) = w9 := ⟨_, rfl⟩
      have hb9 : Below w5.heap.size w5 w9 := by rw [← hw9]; exact (Below.refl _ _).alloc (Nat.le_refl _) _
      have hg9 : RowA w9 w5.heap.size back := by rw [← hw9]; exact ⟨C, heap_alloc_new w5 _, HC.out⟩
      have hk9 : Below w7.heap.size w7 w9 := HB5.out.trans (hb9.mono HB5.out.size)
      have ht9 : TabA w9 nb c' := HT7.out.keep (hk9.block nb HT7.out.lt)
      have HB9 : Hid (Below w1.heap.size w1 w9) := bel_next HB7.out hk9
      have HMB := Lib.hid (HL7.out.reach HM7.out HBK.out (by decide))
      have HMR : Hid (∀ W a b, Below w9.heap.size w9 W → a < 22 → b < 22 → Calls Try.prog 75 #[.int .i64 (a : Nat), .int .i64 (b : Nat), .pointer (some ⟨w5.heap.size, 0, none⟩), .pointer (some ⟨nb, 0, none⟩)] W fun e w' => e = .returned (.bool (dirB T sum a b)) ∧ Below W.heap.size W w') := fun W a b hW ha hb => more_any w5.heap.size nb back T c' sum a b ha hb W (hg9.keep (hW.block _ hg9.lt)) (ht9.keep (hW.block _ ht9.lt)) HL7.out HMB.out HBK.out
      have HNB2 : Hid (∀ i, i < g.lines.length → narB g i = (dirB T sum (g.lines.getD i dLine).a.toNat (g.lines.getD i dLine).b.toNat || (!(g.lines.getD i dLine).one && dirB T sum (g.lines.getD i dLine).b.toNat (g.lines.getD i dLine).a.toNat))) := fun i hi => narB_two HGO.out hi HCT.out HM7.out
      obtain ⟨_, p0, p1, p2, p3⟩ := HX.out w9 HB9.out
      have HO0 : Hid (OutI w9 w9.heap.size (.slice none 0 0) (narL g 0)) := OutI.nil _ _
      have HC0 : Hid (Below w9.heap.size w9 w9) := Below.refl _ _
      rw [hw9]
      clear hw9 hb9 hg9 hk9 ht9 HRC HT7 HL7 HM7 HB7 HFW HN HB5 HC HMB HBK HBD HCT HS1 hs1
      generalize w5.heap.size = gb at *
      go_wp2_with fail
      clear p0 p1 p2 p3
      go_loopw [31, 8] (fun vi vo wr => ∃ (k : Nat) (V : Value), k ≤ g.lines.length ∧ vi = .int .i64 k ∧ V = vo ∧ Hid (OutI wr w9.heap.size V (narL g k)) ∧ Hid (Below w9.heap.size w9 wr)) (fun vi _ _ => g.lines.length - (intOf vi).toNat)
      case atStart => exact ⟨0, _, Nat.zero_le _, rfl, rfl, HO0.out, HC0.out⟩
      case round =>
        clear HO0 HC0
        obtain ⟨k, V, hk, rfl, rfl, HV, HB⟩ := hrel
        rename World => wr
        have HBr : Below w1.heap.size w1 wr := bel_next HB9.out HB.out
        by_cases hlt : k < g.lines.length
        · have HLT := Lib.hid hlt
          obtain ⟨f, lb, lo, hfe, hA, hlb, f0, f1, f2, f3⟩ := (HG.out wr (HX.out wr HBr).1).ls.at_ hlt
          subst hA
          have hfm : f ∈ g.lines := by rw [← hfe]; exact getD_in hlt dLine
          obtain ⟨hfa, hfb, hfab, hf1, hf2⟩ := HGO.out.line f hfm
          have hn := HGO.out.few
          obtain ⟨a, ha⟩ : ∃ a : Nat, f.a = (a : Int) := ⟨f.a.toNat, by omega⟩
          obtain ⟨b, hb⟩ : ∃ b : Nat, f.b = (b : Int) := ⟨f.b.toNat, by omega⟩
          have ha22 : a < 22 := by omega
          have hb22 : b < 22 := by omega
          have hnb := HNB2.out k hlt
          rw [hfe, ha, hb, Int.toNat_natCast, Int.toNat_natCast] at hnb
          rw [ha] at f0
          rw [hb] at f1
          obtain ⟨o, ho⟩ : ∃ o, f.one = o := ⟨_, rfl⟩
          rw [ho] at f3 hnb
          obtain ⟨D1, hD1⟩ : ∃ D1, dirB T sum a b = D1 := ⟨_, rfl⟩
          obtain ⟨D2, hD2⟩ : ∃ D2, dirB T sum b a = D2 := ⟨_, rfl⟩
          have MR1 : Hid (∀ W, Below w9.heap.size w9 W → Calls Try.prog 75 #[.int .i64 a, .int .i64 b, .pointer (some ⟨gb, 0, none⟩), .pointer (some ⟨nb, 0, none⟩)] W fun e w' => e = .returned (.bool D1) ∧ Below W.heap.size W w') := fun W hW => by have := HMR.out W a b hW ha22 hb22; rw [hD1] at this; exact this
          have MR2 : Hid (∀ W, Below w9.heap.size w9 W → Calls Try.prog 75 #[.int .i64 b, .int .i64 a, .pointer (some ⟨gb, 0, none⟩), .pointer (some ⟨nb, 0, none⟩)] W fun e w' => e = .returned (.bool D2) ∧ Below W.heap.size W w') := fun W hW => by have := HMR.out W b a hW hb22 ha22; rw [hD2] at this; exact this
          rw [hD1, hD2] at hnb
          have HNB := Lib.hid hnb
          have HNL : Hid (narL g (k + 1) = if narB g k = true then narL g k ++ [(k : Int)] else narL g k) := rfl
          have HLN : Hid ((narL g k).length ≤ 40) := by have := narL_len g k; show _ ≤ _; omega
          clear hnb hD1 hD2 ho hfe hfm hfa hfb hfab hn ha hb
          obtain ⟨LN, hLN⟩ : ∃ LN, #[Value.int .i64 a, Value.int .i64 b, Value.int .i64 f.limit, Value.bool o] = LN := ⟨_, rfl⟩
          have HLC : Hid (∀ W, Below (wr.alloc (.cells LN 67)).heap.size (wr.alloc (.cells LN 67)) W → W.cell? ⟨wr.heap.size, 0, none⟩ = some (.int .i64 a) ∧ W.cell? ⟨wr.heap.size, 1, none⟩ = some (.int .i64 b) ∧ W.cell? ⟨wr.heap.size, 3, none⟩ = some (.bool o)) := fun W hW => by
            have h1 := (hW.block wr.heap.size (by simp)).trans (heap_alloc_new wr (.cells LN 67))
            rw [← hLN] at h1
            exact ⟨cell_of_row W _ 0 _ _ _ h1, cell_of_row W _ 1 _ _ _ h1, cell_of_row W _ 3 _ _ _ h1⟩
          have HCA : Hid (Below w9.heap.size w9 (wr.alloc (.cells LN 67))) := HB.out.alloc HB.out.size _
          have HVA : Hid (OutI (wr.alloc (.cells LN 67)) w9.heap.size V (narL g k)) := own_below HV.out ((Below.refl _ _).alloc (Nat.le_refl _) _) (fun b hb => (own_block_lt HV.out b hb).2)
          subst hLN
          generalize narL g k = L at *
          cases D1
          · cases o
            · cases D2
              · skip
                have HST : Hid (narL g (k + 1) = L) := by show _ = _; rw [HNL.out, HNB.out]; rfl
                clear HNL HNB
                go_wp2_with (first
                  | (go_at_call 75; (with_reducible refine (MR1.out _ (HCA.out)).mono ?_); rintro e w11 ⟨rfl, hb11⟩; have HC11 : Hid (Below w9.heap.size w9 w11) := bel_next (HCA.out) hb11; have HV11 : Hid (OutI w11 w9.heap.size V L) := own_below (HVA.out) hb11 (fun b hb => (own_block_lt (HVA.out) b hb).2); have KL11 := Lib.hid (HLC.out w11 (hb11)); have KB11 := Lib.hid (hb11); obtain ⟨d0, d1, d3⟩ := KL11.out; have HA11 : Hid (OutI (w11.alloc (.cells #[.int .i64 k] 3)) w9.heap.size V L ∧ (w11.alloc (.cells #[.int .i64 k] 3)).cell? ⟨w11.heap.size, 0, none⟩ = some (.int .i64 k)) := ⟨own_below HV11.out ((Below.refl _ _).alloc (Nat.le_refl _) _) (fun b hb => (own_block_lt HV11.out b hb).2), newcell w11 _ 3 0⟩; have hsz11 := HC11.out.size; clear hb11)
                  | (go_at_call 75; (with_reducible refine (MR2.out _ (HC11.out)).mono ?_); rintro e w12 ⟨rfl, hb12⟩; have HC12 : Hid (Below w9.heap.size w9 w12) := bel_next (HC11.out) hb12; have HV12 : Hid (OutI w12 w9.heap.size V L) := own_below (HV11.out) hb12 (fun b hb => (own_block_lt (HV11.out) b hb).2); have KL12 := Lib.hid (HLC.out w12 (KB11.out.trans (hb12.mono KB11.out.size))); have KB12 := Lib.hid (KB11.out.trans (hb12.mono KB11.out.size)); obtain ⟨d0, d1, d3⟩ := KL12.out; have HA12 : Hid (OutI (w12.alloc (.cells #[.int .i64 k] 3)) w9.heap.size V L ∧ (w12.alloc (.cells #[.int .i64 k] 3)).cell? ⟨w12.heap.size, 0, none⟩ = some (.int .i64 k)) := ⟨own_below HV12.out ((Below.refl _ _).alloc (Nat.le_refl _) _) (fun b hb => (own_block_lt HV12.out b hb).2), newcell w12 _ 3 0⟩; have hsz12 := HC12.out.size; clear hb12)
                  | fail)
                go_roundw
                case rel => exact ⟨k + 1, _, HLT.out, by go_num, rfl, by rw [HST.out]; exact HV12.out, HC12.out⟩
                case measure => simp [intOf]; have := HLT.out; omega
              · skip
                have HST : Hid (narL g (k + 1) = L ++ [(k : Int)]) := by show _ = _; rw [HNL.out, HNB.out]; rfl
                clear HNL HNB
                go_wp2_with (first
                  | (go_at_call 75; (with_reducible refine (MR1.out _ (HCA.out)).mono ?_); rintro e w11 ⟨rfl, hb11⟩; have HC11 : Hid (Below w9.heap.size w9 w11) := bel_next (HCA.out) hb11; have HV11 : Hid (OutI w11 w9.heap.size V L) := own_below (HVA.out) hb11 (fun b hb => (own_block_lt (HVA.out) b hb).2); have KL11 := Lib.hid (HLC.out w11 (hb11)); have KB11 := Lib.hid (hb11); obtain ⟨d0, d1, d3⟩ := KL11.out; have HA11 : Hid (OutI (w11.alloc (.cells #[.int .i64 k] 3)) w9.heap.size V L ∧ (w11.alloc (.cells #[.int .i64 k] 3)).cell? ⟨w11.heap.size, 0, none⟩ = some (.int .i64 k)) := ⟨own_below HV11.out ((Below.refl _ _).alloc (Nat.le_refl _) _) (fun b hb => (own_block_lt HV11.out b hb).2), newcell w11 _ 3 0⟩; have hsz11 := HC11.out.size; clear hb11)
                  | (go_at_call 75; (with_reducible refine (MR2.out _ (HC11.out)).mono ?_); rintro e w12 ⟨rfl, hb12⟩; have HC12 : Hid (Below w9.heap.size w9 w12) := bel_next (HC11.out) hb12; have HV12 : Hid (OutI w12 w9.heap.size V L) := own_below (HV11.out) hb12 (fun b hb => (own_block_lt (HV11.out) b hb).2); have KL12 := Lib.hid (HLC.out w12 (KB11.out.trans (hb12.mono KB11.out.size))); have KB12 := Lib.hid (KB11.out.trans (hb12.mono KB11.out.size)); obtain ⟨d0, d1, d3⟩ := KL12.out; have HA12 : Hid (OutI (w12.alloc (.cells #[.int .i64 k] 3)) w9.heap.size V L ∧ (w12.alloc (.cells #[.int .i64 k] 3)).cell? ⟨w12.heap.size, 0, none⟩ = some (.int .i64 k)) := ⟨own_below HV12.out ((Below.refl _ _).alloc (Nat.le_refl _) _) (fun b hb => (own_block_lt HV12.out b hb).2), newcell w12 _ 3 0⟩; have hsz12 := HC12.out.size; clear hb12)
                  | (at_builtin; refine app_int _ rfl _ _ rfl w9.heap.size V L rfl HA12.out.1 _ k rfl HA12.out.2 (by have := HLN.out; omega) (by simp; omega) ?_; intro v7 w13 hO7 hg7; have HO13 := Lib.hid hO7; have HB13 : Hid (Below w9.heap.size w9 w13) := (HC12.out.alloc HC12.out.size _).grown hg7 (by simp; omega) (fun b hb => (own_block_lt HV12.out b hb).1); clear hO7 hg7)
                  | fail)
                go_roundw
                case rel => exact ⟨k + 1, _, HLT.out, by go_num, rfl, by rw [HST.out]; exact HO13.out, HB13.out⟩
                case measure => simp [intOf]; have := HLT.out; omega
            · skip
              have HST : Hid (narL g (k + 1) = L) := by show _ = _; rw [HNL.out, HNB.out]; rfl
              clear HNL HNB
              go_wp2_with (first
                | (go_at_call 75; (with_reducible refine (MR1.out _ (HCA.out)).mono ?_); rintro e w11 ⟨rfl, hb11⟩; have HC11 : Hid (Below w9.heap.size w9 w11) := bel_next (HCA.out) hb11; have HV11 : Hid (OutI w11 w9.heap.size V L) := own_below (HVA.out) hb11 (fun b hb => (own_block_lt (HVA.out) b hb).2); have KL11 := Lib.hid (HLC.out w11 (hb11)); have KB11 := Lib.hid (hb11); obtain ⟨d0, d1, d3⟩ := KL11.out; have HA11 : Hid (OutI (w11.alloc (.cells #[.int .i64 k] 3)) w9.heap.size V L ∧ (w11.alloc (.cells #[.int .i64 k] 3)).cell? ⟨w11.heap.size, 0, none⟩ = some (.int .i64 k)) := ⟨own_below HV11.out ((Below.refl _ _).alloc (Nat.le_refl _) _) (fun b hb => (own_block_lt HV11.out b hb).2), newcell w11 _ 3 0⟩; have hsz11 := HC11.out.size; clear hb11)
                | fail)
              go_roundw
              case rel => exact ⟨k + 1, _, HLT.out, by go_num, rfl, by rw [HST.out]; exact HV11.out, HC11.out⟩
              case measure => simp [intOf]; have := HLT.out; omega
          · skip
            have HST : Hid (narL g (k + 1) = L ++ [(k : Int)]) := by show _ = _; rw [HNL.out, HNB.out]; rfl
            clear HNL HNB
            go_wp2_with (first
              | (go_at_call 75; (with_reducible refine (MR1.out _ (HCA.out)).mono ?_); rintro e w11 ⟨rfl, hb11⟩; have HC11 : Hid (Below w9.heap.size w9 w11) := bel_next (HCA.out) hb11; have HV11 : Hid (OutI w11 w9.heap.size V L) := own_below (HVA.out) hb11 (fun b hb => (own_block_lt (HVA.out) b hb).2); have KL11 := Lib.hid (HLC.out w11 (hb11)); have KB11 := Lib.hid (hb11); obtain ⟨d0, d1, d3⟩ := KL11.out; have HA11 : Hid (OutI (w11.alloc (.cells #[.int .i64 k] 3)) w9.heap.size V L ∧ (w11.alloc (.cells #[.int .i64 k] 3)).cell? ⟨w11.heap.size, 0, none⟩ = some (.int .i64 k)) := ⟨own_below HV11.out ((Below.refl _ _).alloc (Nat.le_refl _) _) (fun b hb => (own_block_lt HV11.out b hb).2), newcell w11 _ 3 0⟩; have hsz11 := HC11.out.size; clear hb11)
              | (at_builtin; refine app_int _ rfl _ _ rfl w9.heap.size V L rfl HA11.out.1 _ k rfl HA11.out.2 (by have := HLN.out; omega) (by simp; omega) ?_; intro v7 w13 hO7 hg7; have HO13 := Lib.hid hO7; have HB13 : Hid (Below w9.heap.size w9 w13) := (HC11.out.alloc HC11.out.size _).grown hg7 (by simp; omega) (fun b hb => (own_block_lt HV11.out b hb).1); clear hO7 hg7)
              | fail)
            go_roundw
            case rel => exact ⟨k + 1, _, HLT.out, by go_num, rfl, by rw [HST.out]; exact HO13.out, HB13.out⟩
            case measure => simp [intOf]; have := HLT.out; omega
        · obtain rfl : k = g.lines.length := by omega
          go_wp2_with fail
          obtain ⟨A', c', rfl, hcl, hi'⟩ := HV.out.reads
          have HI' := Lib.hid hi'
          clear hi'
          go_ret2
          exact ⟨(HX.out _ HBr).1, .inr ⟨HE.out, A', c', rfl, HI'.out⟩⟩
  · have hz' : (E != 0) = true := by simpa using hz
    have HZN : Hid (E ≠ 0) := hz
    clear hE hz
    go_enter Try.func42, Try.ntmps42
    go_wp2_with (go_at_call 35; refine (HCK.out _ (HX.out _ (Below.refl _ _)).1).mono ?_; rintro e w2 ⟨rfl, hb2⟩; have HB2 := Lib.hid hb2; clear hb2 p0 p1 p2 p3)
    go_ret2
    exact ⟨(HX.out _ HB2.out).1, .inl ⟨by rw [HE.out]; exact HZN.out, by rw [HE.out]; rfl⟩⟩
end Go.Proofs.Ytegclodchhcbaaa

