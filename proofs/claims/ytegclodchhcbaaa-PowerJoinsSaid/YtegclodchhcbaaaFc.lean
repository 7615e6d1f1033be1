/- Walks: carries, Carries, Cut: ours. Printed by gen_fc8.py. -/
import Derived.Test.YtegclodchhcbaaaFo
namespace Go.Proofs.Ytegclodchhcbaaa
open Go.RowKit

def CarP (g : MGrid) (F : List MFault) (want : List Int) (n : Nat) (w : World) (e : Ending) (w' : World) : Prop :=
  Below w.heap.size w w' ∧ ∃ sum R, e = .returned (.bool (decide (sum = needS g want want.length))) ∧ MostG g F want n sum R
set_option maxRecDepth 100000 in
set_option maxHeartbeats 8000000 in
theorem carries_any (g : MGrid) (A1 A2 A3 : Option Addr) (c1 c2 c3 : Nat) (A : Option Addr) (cap : Nat) (F : List MFault) (Aw : Option Addr) (wc : Nat) (want : List Int) (w : World) (h : GridA w w.heap.size g A1 A2 A3) (hf : FaultsA w w.heap.size A F) (hw : IntsA w w.heap.size Aw want) {n : Nat} (hg : GridOk g n) (hwo : WantOk g want) (hwl : want.length ≤ 100) :
    Calls Try.prog 65 #[.agg (gridC g A1 A2 A3 c1 c2 c3), .slice A F.length cap, .slice Aw want.length wc] w (CarP g F want n w) := by
  unfold gridC
  obtain ⟨Z, hZ⟩ : ∃ Z, Z = Array.replicate 484 (Value.int .i64 0) := ⟨_, rfl⟩
  have hz86 := zero86.1
  have hZS : Z.size = 484 := by rw [hZ]; simp
  rw [← hZ] at hz86
  clear hZ
  obtain ⟨w1, hw1⟩ : ∃ w1, w.alloc (.cells #[.int .i64 g.nodes, .slice A1 g.lines.length c1, .slice A2 g.srcs.length c2, .slice A3 g.users.length c3] 26) = w1 := ⟨_, rfl⟩
  have hb1 : Below w.heap.size w w1 := by rw [← hw1]; exact (Below.refl _ _).alloc (Nat.le_refl _) _
  have hs1 : w1.heap.size = w.heap.size + 1 := by rw [← hw1]; simp
  have hx1 : w1.heap[w.heap.size]? = some (.cells #[.int .i64 g.nodes, .slice A1 g.lines.length c1, .slice A2 g.srcs.length c2, .slice A3 g.users.length c3] 26 (0, 0)) := by rw [← hw1]; exact heap_alloc_new w _
  have HX : Hid (∀ W, Below w1.heap.size w1 W → Below w.heap.size w W ∧ W.cell? ⟨w.heap.size, 0, none⟩ = some (.int .i64 g.nodes) ∧ W.cell? ⟨w.heap.size, 1, none⟩ = some (.slice A1 g.lines.length c1) ∧ W.cell? ⟨w.heap.size, 2, none⟩ = some (.slice A2 g.srcs.length c2) ∧ W.cell? ⟨w.heap.size, 3, none⟩ = some (.slice A3 g.users.length c3)) := fun W hW => by
    have h1 := (hW.block w.heap.size (by omega)).trans hx1
    exact ⟨hb1.trans (hW.mono (by omega)), cell_of_row W _ 0 _ _ _ h1, cell_of_row W _ 1 _ _ _ h1, cell_of_row W _ 2 _ _ _ h1, cell_of_row W _ 3 _ _ _ h1⟩
  have HG : Hid (∀ W, Below w.heap.size w W → GridA W W.heap.size g A1 A2 A3 ∧ FaultsA W W.heap.size A F ∧ IntsA W W.heap.size Aw want) := fun W hW => ⟨(h.keep hW).more hW.size, (hf.keep hW).more hW.size, (hw.below hW (Nat.le_refl _)).more hW.size⟩
  obtain ⟨_, p0, p1, p2, p3⟩ := HX.out w1 (Below.refl _ _)
  have HLV : Hid (∀ W, Below w1.heap.size w1 W → Calls Try.prog 59 #[.agg #[.int .i64 g.nodes, .slice A1 g.lines.length c1, .slice A2 g.srcs.length c2, .slice A3 g.users.length c3], .slice A F.length cap] W fun e w' => ∃ r, e = .returned r ∧ ∃ C, r = .agg C ∧ TabC C (srcsT F 20 g.srcs (linesT F g.lines zeroT g.lines.length) g.srcs.length) ∧ Below W.heap.size W w') := fun W hW => (live_any g n A1 A2 A3 c1 c2 c3 A cap F W (HG.out W (HX.out W hW).1).1 (HG.out W (HX.out W hW).1).2.1 hg).mono fun _ _ ⟨⟨C, he, hC⟩, hb⟩ => ⟨_, he, C, rfl, hC, hb⟩
  have HJN : Hid (∀ C1, TabC C1 (srcsT F 20 g.srcs (linesT F g.lines zeroT g.lines.length) g.srcs.length) → ∀ W, Below w1.heap.size w1 W → Calls Try.prog 60 #[.agg C1, .agg #[.int .i64 g.nodes, .slice A1 g.lines.length c1, .slice A2 g.srcs.length c2, .slice A3 g.users.length c3], .slice A F.length cap, .slice Aw want.length wc] W fun e w' => ∃ r, e = .returned r ∧ ∃ C, r = .tuple #[.agg C, .int .i64 (needS g want want.length)] ∧ TabC C (usersT F 21 g.users want (srcsT F 20 g.srcs (linesT F g.lines zeroT g.lines.length) g.srcs.length) want.length) ∧ Below W.heap.size W w') := fun C1 hC1 W hW =>
    (join_any C1 _ hC1 g n A1 A2 A3 c1 c2 c3 A cap F Aw wc want W (HG.out W (HX.out W hW).1).1 (HG.out W (HX.out W hW).1).2.1 (HG.out W (HX.out W hW).1).2.2 hg hwo (by omega) (hg.liveBd (Nat.le_refl _))).mono fun _ _ ⟨⟨C, he, hC⟩, hb⟩ => ⟨_, he, C, rfl, hC, hb⟩
  have HGO := Lib.hid hg
  have HWO := Lib.hid hwo
  have HBD : Hid (Bd (usersT F 21 g.users want (srcsT F 20 g.srcs (linesT F g.lines zeroT g.lines.length) g.srcs.length) want.length) 109600000) := hg.ourBd hwo hwl (Nat.le_refl _)
  have HCT : Hid (∀ S : Nat → Bool, S 20 = true → S 21 = false → cutN 22 (usersT F 21 g.users want (srcsT F 20 g.srcs (linesT F g.lines zeroT g.lines.length) g.srcs.length) want.length) S = cutG g F want S) := fun S h1 h2 => cut_ourT hg hwo (by have := hg.few; omega) (by decide) (by decide) h1 h2
  have HB2D : Below w1.heap.size w1 w1.drew := (Below.refl _ _).drew
  have HB2 : Hid (Below w1.heap.size w1 w1) := Below.refl _ _
  have hl2 : w.heap.size < w1.heap.size := by omega
  have HB2A : Below w1.heap.size w1 (w1.alloc (.cells Z 86)).drew := (HB2.out.alloc HB2.out.size _).drew
  have HS1 := Lib.hid hs1
  clear h hf hw hb1 hx1 hg hwo hs1
  generalize (usersT F 21 g.users want (srcsT F 20 g.srcs (linesT F g.lines zeroT g.lines.length) g.srcs.length) want.length) = T at *
  go_enter Try.func65, Try.ntmps65
  go_upto_region 1 with fail
  go_cut [7, 8] (fun vn vm wx => ∃ nb, vn = .pointer (some ⟨nb, 0, none⟩) ∧ vm = .int .i64 (needS g want want.length) ∧ Hid (NetR w1 T nb wx))
  case first =>
    go_region_law (first
      | (refine step_c59 _ (by rfl) _ _ _ (by rfl) _ _ _ (by rfl) (by rfl) (HLV.out _ (by first | exact HB2D | exact HB2A)) ?_; rintro r5 w5 ⟨C1, rfl, hC1, hb5⟩; have HC1 := Lib.hid hC1; (try have HZ5 := Lib.hid ((hb5.block w1.heap.size (by simp)).trans (show (w1.alloc (.cells Z 86)).drew.heap[w1.heap.size]? = _ from heap_alloc_new w1 (.cells Z 86)))); have HB5 : Below w1.heap.size w1 w5 := (by first | exact HB2D.trans (hb5.mono HB2D.size) | exact HB2A.trans (hb5.mono HB2A.size)); obtain ⟨_, k0, k1, k2, k3⟩ := HX.out w5 HB5; have hl5 : w.heap.size < w5.heap.size := (by have := HB5.size; omega); clear hb5 hC1)
      | (refine step_c60 _ (by rfl) _ _ _ _ _ (by rfl) _ _ _ _ _ (by rfl) (by rfl) (by rfl) (by rfl) (HJN.out C1 HC1.out _ (by first | exact HB5 | exact HB5.alloc HB5.size _)) ?_; rintro r6 w6 ⟨C, rfl, hC, hb6⟩; have HC := Lib.hid hC; (try have HZ6 := Lib.hid ((hb6.block w5.heap.size (by simp)).trans (heap_alloc_new w5 (.cells Z 86)))); (try have HZ6 := Lib.hid ((hb6.block w1.heap.size (lt_of_cells HZ5.out)).trans HZ5.out)); have HB6 : Below w1.heap.size w1 w6 := (by first | exact HB5.trans (hb6.mono HB5.size) | exact (HB5.alloc HB5.size _).trans (hb6.mono (HB5.alloc HB5.size _).size)); have hcs : C.size = 484 := HC.out.1; have hst0 := store86_new w6 HC.out hZS; have HNR0 := Lib.hid (NetR.new HC.out HB6); (try have hst1 := store86_at HC.out HZ6.out hZS); (try have HNR1 := Lib.hid (NetR.of HC.out HB6 HB2.out.size HZ6.out)); (try have HNR1 := Lib.hid (NetR.of HC.out HB6 HB5.size HZ6.out)); clear hb6 hC)
      | fail)
    all_goals
      go_wp2_with fail
      go_meet
    all_goals (with_reducible first | exact ⟨_, rfl, rfl, HNR0⟩ | exact ⟨_, rfl, rfl, HNR1⟩)
  case rest =>
    obtain ⟨nb, rfl, rfl, HN⟩ := hcut
    rename World => wx
    have HFW := Lib.hid (flow_any nb T wx HN.out.1 (fun x y => (HBD.out x y).1) (fun x y => by have := HBD.out x y; omega) (by have := capSum_le HBD.out; omega))
    clear p0 p1 p2 p3 hz86 hZS HLV HJN
    go_wp2_with (go_at_call 61; refine HFW.out.mono ?_; rintro e w7 ⟨sum, c', R, rfl, _, _, hm7, hs7⟩; have HM7 := Lib.hid hm7; have HS7 := Lib.hid hs7; clear hm7 hs7)
    go_ret
    refine ⟨(HX.out wx HN.out.2.1).1.trans (HS7.out.below (by have := HN.out.2.2; have := HS1.out; omega) (HX.out wx HN.out.2.1).1.size), sum, R, ret_b (by first | rfl | (rw [Bool.eq_iff_iff]; simp)), HM7.out.grid HCT.out HGO.out HWO.out ?_ ?_ ?_ (by decide)⟩
    · have := HGO.out.few; omega
    · have := HGO.out.few; omega
    · have := HGO.out.few; omega
/-- the answer of Carries -/
def CarriesP (g : MGrid) (F : List MFault) (want : List Int) (w : World) (e : Ending) (w' : World) : Prop :=
  Below w.heap.size w w' ∧ ∃ b, e = .returned (.tuple #[.bool b, .int .i64 (checkA g F want)]) ∧ (checkA g F want ≠ 0 → b = false) ∧ (checkA g F want = 0 → ∃ n sum R, GridOk g n ∧ MostG g F want n sum R ∧ b = decide (sum = needS g want want.length))
set_option maxRecDepth 100000 in
set_option maxHeartbeats 8000000 in
theorem Carries_any (g : MGrid) (A1 A2 A3 : Option Addr) (c1 c2 c3 : Nat) (A : Option Addr) (cap : Nat) (F : List MFault) (Aw : Option Addr) (wc : Nat) (want : List Int) (w : World) (h : GridA w w.heap.size g A1 A2 A3) (hf : FaultsA w w.heap.size A F) (hcap : F.length ≤ cap) (hw : IntsA w w.heap.size Aw want) :
    Calls Try.prog 25 #[.agg (gridC g A1 A2 A3 c1 c2 c3), .slice A F.length cap, .slice Aw want.length wc] w (CarriesP g F want w) := by
  obtain ⟨w1, hw1⟩ : ∃ w1, w.alloc (.cells #[.int .i64 g.nodes, .slice A1 g.lines.length c1, .slice A2 g.srcs.length c2, .slice A3 g.users.length c3] 26) = w1 := ⟨_, rfl⟩
  have hb1 : Below w.heap.size w w1 := by rw [← hw1]; exact (Below.refl _ _).alloc (Nat.le_refl _) _
  have hs1 : w1.heap.size = w.heap.size + 1 := by rw [← hw1]; simp
  have hx1 : w1.heap[w.heap.size]? = some (.cells #[.int .i64 g.nodes, .slice A1 g.lines.length c1, .slice A2 g.srcs.length c2, .slice A3 g.users.length c3] 26 (0, 0)) := by rw [← hw1]; exact heap_alloc_new w _
  have HX : Hid (∀ W, Below w1.heap.size w1 W → Below w.heap.size w W ∧ W.cell? ⟨w.heap.size, 0, none⟩ = some (.int .i64 g.nodes) ∧ W.cell? ⟨w.heap.size, 1, none⟩ = some (.slice A1 g.lines.length c1) ∧ W.cell? ⟨w.heap.size, 2, none⟩ = some (.slice A2 g.srcs.length c2) ∧ W.cell? ⟨w.heap.size, 3, none⟩ = some (.slice A3 g.users.length c3)) := fun W hW => by
    have h1 := (hW.block w.heap.size (by omega)).trans hx1
    exact ⟨hb1.trans (hW.mono (by omega)), cell_of_row W _ 0 _ _ _ h1, cell_of_row W _ 1 _ _ _ h1, cell_of_row W _ 2 _ _ _ h1, cell_of_row W _ 3 _ _ _ h1⟩
  have HG : Hid (∀ W, Below w.heap.size w W → GridA W W.heap.size g A1 A2 A3 ∧ FaultsA W W.heap.size A F ∧ IntsA W W.heap.size Aw want) := fun W hW => ⟨(h.keep hW).more hW.size, (hf.keep hW).more hW.size, (hw.below hW (Nat.le_refl _)).more hW.size⟩
  obtain ⟨_, p0, p1, p2, p3⟩ := HX.out w1 (Below.refl _ _)
  obtain ⟨E, hE⟩ : ∃ E, checkA g F want = E := ⟨_, rfl⟩
  have HE := Lib.hid hE
  have HAL := Lib.hid (fun W hW => all_any g A1 A2 A3 c1 c2 c3 A cap F Aw wc want W (HG.out W hW).1 (HG.out W hW).2.1 hcap (HG.out W hW).2.2 hE)
  unfold gridC at HAL ⊢
  clear h hf hw hb1 hx1
  by_cases hz : E = 0
  · subst hz
    obtain ⟨hk1, _, hk3⟩ := checkA_ok hE
    obtain ⟨n, hgo⟩ := checkG_ok hk1
    obtain ⟨hwo, hwl⟩ := checkW_ok hk3
    have hnu := hgo.nu
    have HCA := Lib.hid (fun W hW => carries_any g A1 A2 A3 c1 c2 c3 A cap F Aw wc want W (HG.out W hW).1 (HG.out W hW).2.1 (HG.out W hW).2.2 hgo hwo (by omega))
    unfold gridC at HCA
    have HGO := Lib.hid hgo
    clear hk1 hk3 hE hgo hwo
    go_enter Try.func25, Try.ntmps25
    go_wp2_with (first
      | (go_at_call 58; refine (HAL.out _ (HX.out _ (Below.refl _ _)).1).mono ?_; rintro e w2 ⟨rfl, hb2⟩; have HB2 := Lib.hid hb2; clear hb2 p0 p1 p2 p3; obtain ⟨_, p0, p1, p2, p3⟩ := HX.out w2 HB2.out)
      | (go_at_call 65; refine (HCA.out _ (HX.out _ HB2.out).1).mono ?_; rintro e w3 ⟨hb3, sum, R, rfl, hm⟩; have HM := Lib.hid hm; have HB3 := Lib.hid hb3; clear hb3 hm))
    go_ret2
    exact ⟨(HX.out _ HB2.out).1.trans (HB3.out.mono (HX.out _ HB2.out).1.size), _, by rw [HE.out]; rfl, fun h => absurd HE.out h, fun _ => ⟨n, sum, R, HGO.out, HM.out, rfl⟩⟩
  · have hz' : (E != 0) = true := by simpa using hz
    have HZN : Hid (E ≠ 0) := hz
    clear hE hz
    go_enter Try.func25, Try.ntmps25
    go_wp2_with (go_at_call 58; refine (HAL.out _ (HX.out _ (Below.refl _ _)).1).mono ?_; rintro e w2 ⟨rfl, hb2⟩; have HB2 := Lib.hid hb2; clear hb2)
    go_ret2
    exact ⟨(HX.out _ HB2.out).1, false, by rw [HE.out]; rfl, fun _ => rfl, fun h => absurd (HE.out.symm.trans h) HZN.out⟩
/-- the nodes of a set, in order -/
def cutL (R : Nat → Bool) (n k : Nat) : List Int := ((List.range k).filter fun x => decide (x < n) && R x).map fun x : Nat => (x : Int)
theorem cutL_step (R : Nat → Bool) (n k : Nat) : cutL R n (k + 1) = if (decide (k < n) && R k) = true then cutL R n k ++ [(k : Int)] else cutL R n k := by
  unfold cutL
  rw [List.range_succ, List.filter_append]
  rcases h : (decide (k < n) && R k)
  · simp [h]
  · simp [h]
theorem cutL_len (R : Nat → Bool) (n k : Nat) : (cutL R n k).length ≤ k := by
  unfold cutL
  rw [List.length_map]
  exact Nat.le_trans (List.length_filter_le _ _) (by simp)
def CutP (g : MGrid) (F : List MFault) (want : List Int) (w : World) (e : Ending) (w' : World) : Prop :=
  Below w.heap.size w w' ∧ ∃ v sum, e = .returned (.tuple #[v, .int .i64 sum, .int .i64 (checkA g F want)]) ∧ (checkA g F want ≠ 0 → v = .slice none 0 0 ∧ sum = 0) ∧ (checkA g F want = 0 → ∃ n R, GridOk g n ∧ MostG g F want n sum R ∧ OutI w' w.heap.size v (cutL R n 22))
theorem LeftF.reach {N : Nat} {c c' : Tab} {b e : Nat} {sum : Int} {R : Nat → Bool} {back : Nat → Int} (h : LeftF N c b e c' sum) (hm : Most N c b e sum R) (hb : BackOk N c' b back) (he : e < N) : Most N c b e sum (seen back) := by
  have hz : cutN N c' R = 0 := by have := h.cut R hm.src hm.snk; rw [hm.is] at this; omega
  refine h.most hb ?_
  rcases Int.lt_or_le (back e) 0 with h1 | h1
  · exact h1
  · have h2 := hb.within (S := R) hm.src (fun x y hx hy hsx hlt => by
      rcases hsy : R y with _ | _
      · have := zero_cut h.nn hz hx hy hsx hsy; omega
      · rfl) e he h1
    rw [hm.snk] at h2
    cases h2
set_option maxRecDepth 100000 in
set_option maxHeartbeats 8000000 in
theorem Cut_any (g : MGrid) (A1 A2 A3 : Option Addr) (c1 c2 c3 : Nat) (A : Option Addr) (cap : Nat) (F : List MFault) (Aw : Option Addr) (wc : Nat) (want : List Int) (w : World) (h : GridA w w.heap.size g A1 A2 A3) (hf : FaultsA w w.heap.size A F) (hcap : F.length ≤ cap) (hw : IntsA w w.heap.size Aw want) :
    Calls Try.prog 28 #[.agg (gridC g A1 A2 A3 c1 c2 c3), .slice A F.length cap, .slice Aw want.length wc] w (CutP g F want w) := by
  obtain ⟨Z, hZ⟩ : ∃ Z, Z = Array.replicate 484 (Value.int .i64 0) := ⟨_, rfl⟩
  have hz86 := zero86.1
  have hZS : Z.size = 484 := by rw [hZ]; simp
  rw [← hZ] at hz86
  clear hZ
  obtain ⟨w1, hw1⟩ : ∃ w1, w.alloc (.cells #[.int .i64 g.nodes, .slice A1 g.lines.length c1, .slice A2 g.srcs.length c2, .slice A3 g.users.length c3] 26) = w1 := ⟨_, rfl⟩
  have hb1 : Below w.heap.size w w1 := by rw [← hw1]; exact (Below.refl _ _).alloc (Nat.le_refl _) _
  have hs1 : w1.heap.size = w.heap.size + 1 := by rw [← hw1]; simp
  have hx1 : w1.heap[w.heap.size]? = some (.cells #[.int .i64 g.nodes, .slice A1 g.lines.length c1, .slice A2 g.srcs.length c2, .slice A3 g.users.length c3] 26 (0, 0)) := by rw [← hw1]; exact heap_alloc_new w _
  have HX : Hid (∀ W, Below w1.heap.size w1 W → Below w.heap.size w W ∧ W.cell? ⟨w.heap.size, 0, none⟩ = some (.int .i64 g.nodes) ∧ W.cell? ⟨w.heap.size, 1, none⟩ = some (.slice A1 g.lines.length c1) ∧ W.cell? ⟨w.heap.size, 2, none⟩ = some (.slice A2 g.srcs.length c2) ∧ W.cell? ⟨w.heap.size, 3, none⟩ = some (.slice A3 g.users.length c3)) := fun W hW => by
    have h1 := (hW.block w.heap.size (by omega)).trans hx1
    exact ⟨hb1.trans (hW.mono (by omega)), cell_of_row W _ 0 _ _ _ h1, cell_of_row W _ 1 _ _ _ h1, cell_of_row W _ 2 _ _ _ h1, cell_of_row W _ 3 _ _ _ h1⟩
  have HG : Hid (∀ W, Below w.heap.size w W → GridA W W.heap.size g A1 A2 A3 ∧ FaultsA W W.heap.size A F ∧ IntsA W W.heap.size Aw want) := fun W hW => ⟨(h.keep hW).more hW.size, (hf.keep hW).more hW.size, (hw.below hW (Nat.le_refl _)).more hW.size⟩
  obtain ⟨_, p0, p1, p2, p3⟩ := HX.out w1 (Below.refl _ _)
  obtain ⟨E, hE⟩ : ∃ E, checkA g F want = E := ⟨_, rfl⟩
  have HE := Lib.hid hE
  have HAL := Lib.hid (fun W hW => all_any g A1 A2 A3 c1 c2 c3 A cap F Aw wc want W (HG.out W hW).1 (HG.out W hW).2.1 hcap (HG.out W hW).2.2 hE)
  unfold gridC at HAL ⊢
  clear h hf hw hb1 hx1
  by_cases hz : E = 0
  · subst hz
    obtain ⟨hk1, _, hk3⟩ := checkA_ok hE
    obtain ⟨n, hgo⟩ := checkG_ok hk1
    obtain ⟨hwo, hwl⟩ := checkW_ok hk3
    have hnu := hgo.nu
    have HLV : Hid (∀ W, Below w1.heap.size w1 W → Calls Try.prog 59 #[.agg #[.int .i64 g.nodes, .slice A1 g.lines.length c1, .slice A2 g.srcs.length c2, .slice A3 g.users.length c3], .slice A F.length cap] W fun e w' => ∃ r, e = .returned r ∧ ∃ C, r = .agg C ∧ TabC C (srcsT F 20 g.srcs (linesT F g.lines zeroT g.lines.length) g.srcs.length) ∧ Below W.heap.size W w') := fun W hW => (live_any g n A1 A2 A3 c1 c2 c3 A cap F W (HG.out W (HX.out W hW).1).1 (HG.out W (HX.out W hW).1).2.1 hgo).mono fun _ _ ⟨⟨C, he, hC⟩, hb⟩ => ⟨_, he, C, rfl, hC, hb⟩
    have HJN : Hid (∀ C1, TabC C1 (srcsT F 20 g.srcs (linesT F g.lines zeroT g.lines.length) g.srcs.length) → ∀ W, Below w1.heap.size w1 W → Calls Try.prog 60 #[.agg C1, .agg #[.int .i64 g.nodes, .slice A1 g.lines.length c1, .slice A2 g.srcs.length c2, .slice A3 g.users.length c3], .slice A F.length cap, .slice Aw want.length wc] W fun e w' => ∃ r, e = .returned r ∧ ∃ C, r = .tuple #[.agg C, .int .i64 (needS g want want.length)] ∧ TabC C (usersT F 21 g.users want (srcsT F 20 g.srcs (linesT F g.lines zeroT g.lines.length) g.srcs.length) want.length) ∧ Below W.heap.size W w') := fun C1 hC1 W hW =>
      (join_any C1 _ hC1 g n A1 A2 A3 c1 c2 c3 A cap F Aw wc want W (HG.out W (HX.out W hW).1).1 (HG.out W (HX.out W hW).1).2.1 (HG.out W (HX.out W hW).1).2.2 hgo hwo (by omega) (hgo.liveBd (Nat.le_refl _))).mono fun _ _ ⟨⟨C, he, hC⟩, hb⟩ => ⟨_, he, C, rfl, hC, hb⟩
    have HGO := Lib.hid hgo
    have HWO := Lib.hid hwo
    have HGN : Hid (g.nodes = (n : Int)) := hgo.nodes
    have HBD : Hid (Bd (usersT F 21 g.users want (srcsT F 20 g.srcs (linesT F g.lines zeroT g.lines.length) g.srcs.length) want.length) 109600000) := hgo.ourBd hwo (by omega) (Nat.le_refl _)
    have HCT : Hid (∀ S : Nat → Bool, S 20 = true → S 21 = false → cutN 22 (usersT F 21 g.users want (srcsT F 20 g.srcs (linesT F g.lines zeroT g.lines.length) g.srcs.length) want.length) S = cutG g F want S) := fun S h1 h2 => cut_ourT hgo hwo (by have := hgo.few; omega) (by decide) (by decide) h1 h2
    clear hk1 hk3 hE hgo hwo
    generalize (usersT F 21 g.users want (srcsT F 20 g.srcs (linesT F g.lines zeroT g.lines.length) g.srcs.length) want.length) = T at *
    go_enter Try.func28, Try.ntmps28
    go_upto_region 4 with (go_at_call 58; refine (HAL.out _ (HX.out _ (Below.refl _ _)).1).mono ?_; rintro e w2 ⟨rfl, hb2⟩; have HB2 := Lib.hid hb2; clear hb2 p0 p1 p2 p3)
    obtain ⟨_, p0, p1, p2, p3⟩ := HX.out w2 HB2.out
    have HB2D : Below w1.heap.size w1 w2.drew := HB2.out.drew
    have hl2 : w.heap.size < w2.heap.size := by have := HB2.out.size; omega
    have HB2A : Below w1.heap.size w1 (w2.alloc (.cells Z 86)).drew := (HB2.out.alloc HB2.out.size _).drew
    go_cut [10, 11] (fun vn vm wx => ∃ nb, vn = .pointer (some ⟨nb, 0, none⟩) ∧ vm = .int .i64 (needS g want want.length) ∧ Hid (NetR w1 T nb wx))
    case first =>
      go_region_law (first
        | (refine step_c59 _ (by rfl) _ _ _ (by rfl) _ _ _ (by rfl) (by rfl) (HLV.out _ (by first | exact HB2D | exact HB2A)) ?_; rintro r5 w5 ⟨C1, rfl, hC1, hb5⟩; have HC1 := Lib.hid hC1; (try have HZ5 := Lib.hid ((hb5.block w2.heap.size (by simp)).trans (show (w2.alloc (.cells Z 86)).drew.heap[w2.heap.size]? = _ from heap_alloc_new w2 (.cells Z 86)))); have HB5 : Below w1.heap.size w1 w5 := (by first | exact HB2D.trans (hb5.mono HB2D.size) | exact HB2A.trans (hb5.mono HB2A.size)); obtain ⟨_, k0, k1, k2, k3⟩ := HX.out w5 HB5; have hl5 : w.heap.size < w5.heap.size := (by have := HB5.size; omega); clear hb5 hC1)
        | (refine step_c60 _ (by rfl) _ _ _ _ _ (by rfl) _ _ _ _ _ (by rfl) (by rfl) (by rfl) (by rfl) (HJN.out C1 HC1.out _ (by first | exact HB5 | exact HB5.alloc HB5.size _)) ?_; rintro r6 w6 ⟨C, rfl, hC, hb6⟩; have HC := Lib.hid hC; (try have HZ6 := Lib.hid ((hb6.block w5.heap.size (by simp)).trans (heap_alloc_new w5 (.cells Z 86)))); (try have HZ6 := Lib.hid ((hb6.block w2.heap.size (lt_of_cells HZ5.out)).trans HZ5.out)); have HB6 : Below w1.heap.size w1 w6 := (by first | exact HB5.trans (hb6.mono HB5.size) | exact (HB5.alloc HB5.size _).trans (hb6.mono (HB5.alloc HB5.size _).size)); have hcs : C.size = 484 := HC.out.1; have hst0 := store86_new w6 HC.out hZS; have HNR0 := Lib.hid (NetR.new HC.out HB6); (try have hst1 := store86_at HC.out HZ6.out hZS); (try have HNR1 := Lib.hid (NetR.of HC.out HB6 HB2.out.size HZ6.out)); (try have HNR1 := Lib.hid (NetR.of HC.out HB6 HB5.size HZ6.out)); clear hb6 hC)
        | fail)
      all_goals
        go_wp2_with fail
        go_meet
      all_goals (with_reducible first | exact ⟨_, rfl, rfl, HNR0⟩ | exact ⟨_, rfl, rfl, HNR1⟩)
    case rest =>
      obtain ⟨nb, rfl, rfl, HN⟩ := hcut
      rename World => wx
      have HFW := Lib.hid (flow_any nb T wx HN.out.1 (fun x y => (HBD.out x y).1) (fun x y => by have := HBD.out x y; omega) (by have := capSum_le HBD.out; omega))
      clear p0 p1 p2 p3 hz86 hZS HLV HJN HAL
      go_upto_region 6 with (go_at_call 61; refine HFW.out.mono ?_; rintro e w7 ⟨sum, c', R, rfl, ht7, hl7, hm7, hs7⟩; have HT7 := Lib.hid ht7; have HL7 := Lib.hid hl7; have HM7 := Lib.hid hm7; have HS7 := Lib.hid hs7; clear ht7 hl7 hm7 hs7)
      have HRC := Lib.hid (reach_any nb c' 20 w7 HT7.out (by decide))
      have HB7 : Hid (Below w1.heap.size w1 w7) := HN.out.2.1.trans (HS7.out.below HN.out.2.2 HN.out.2.1.size)
      go_wp2_with (go_at_call 67; refine HRC.out.mono ?_; rintro e w8 ⟨⟨C, back, rfl, hC, hBK⟩, hb8⟩; have HC := Lib.hid hC; have HB8 := Lib.hid (HB7.out.trans (hb8.mono HB7.out.size)); have HMO := Lib.hid (HL7.out.reach HM7.out hBK (by decide)); clear hC hBK hb8)
      go_loopw [33, 6] (fun vi vs wr => ∃ i : Nat, i ≤ 22 ∧ vi = .int .i64 i ∧ Hid (OutI wr w1.heap.size vs (cutL (seen back) n i)) ∧ Hid (Below w1.heap.size w1 wr)) (fun vi _ _ => 22 - (intOf vi).toNat)
      case atStart => exact ⟨0, by omega, rfl, OutI.nil _ _, HB8⟩
      case round =>
        clear HB8
        obtain ⟨i, hi, rfl, HO, HB⟩ := hrel
        rename World => wr
        obtain ⟨_, p0, p1, p2, p3⟩ := HX.out wr HB.out
        rw [HGN.out] at p0
        by_cases hlt : i < 22
        · have hix := run_index83 HC.out hlt
          have hst := cutL_step (seen back) n i
          have HST := Lib.hid hst
          have hul : (cutL (seen back) n i).length ≤ 1000000 := by have := cutL_len (seen back) n i; omega
          obtain ⟨A6, q6, hv6, _⟩ := HO.out.lenV
          have HB9 : Hid (w1.heap.size ≤ (wr.alloc (.cells #[.int .i64 i] 3)).heap.size) := by have := HB.out.size; show _ ≤ _; simp; omega
          have HQ0 := Lib.hid (newcell wr #[.int .i64 i] 3 0)
          clear hst
          by_cases h1 : i < n
          · by_cases h2 : 0 ≤ back i
            · have HEQ : Hid (cutL (seen back) n (i + 1) = cutL (seen back) n i ++ [(i : Int)]) := by show _ = _; rw [HST.out, if_pos (by rw [decide_eq_true h1]; exact decide_eq_true h2)]
              have HO6 := Lib.hid (World.ownsRow.alloc HO.out (.cells #[.int .i64 i] 3))
              go_wp2_with (at_builtin; refine app_int _ rfl _ _ rfl w1.heap.size _ (cutL (seen back) n i) rfl HO6.out wr.heap.size i rfl HQ0.out hul HB9.out ?_; intro v7 w7 hO7 hg7; have HO7 := Lib.hid hO7; have HG7 := Lib.hid hg7; clear hO7 hg7)
              go_roundw
              case rel => exact ⟨i + 1, hlt, by go_num, by rw [HEQ.out]; exact HO7.out, (HB.out.alloc HB.out.size _).grown HG7.out HB9.out (fun b hb => (own_block_lt HO.out b hb).1)⟩
              case measure => simp [intOf]; omega
            · have HEQ : Hid (cutL (seen back) n (i + 1) = cutL (seen back) n i) := by show _ = _; rw [HST.out, if_neg (by rw [decide_eq_true h1]; unfold seen; rw [decide_eq_false h2]; simp)]
              go_wp2_with fail
              go_roundw
              case rel => exact ⟨i + 1, hlt, by go_num, by rw [HEQ.out]; exact HO.out, HB⟩
              case measure => simp [intOf]; omega
          · have HEQ : Hid (cutL (seen back) n (i + 1) = cutL (seen back) n i) := by show _ = _; rw [HST.out, if_neg (by rw [decide_eq_false h1]; simp)]
            go_wp2_with fail
            go_roundw
            case rel => exact ⟨i + 1, hlt, by go_num, by rw [HEQ.out]; exact HO.out, HB⟩
            case measure => simp [intOf]; omega
        · obtain rfl : i = 22 := by omega
          go_wp2_with fail
          go_ret3
          refine ⟨(HX.out wr HB.out).1, _, sum, by rw [HE.out]; rfl, fun h => absurd HE.out h, fun _ => ⟨n, seen back, HGO.out, HMO.out.grid HCT.out HGO.out HWO.out ?_ ?_ ?_ (by decide), own_base HO.out (by omega)⟩⟩
          · have := HGO.out.few; omega
          · have := HGO.out.few; omega
          · have := HGO.out.few; omega
  · have hz' : (E != 0) = true := by simpa using hz
    have HZN : Hid (E ≠ 0) := hz
    clear hE hz
    go_enter Try.func28, Try.ntmps28
    go_wp2_with (go_at_call 58; refine (HAL.out _ (HX.out _ (Below.refl _ _)).1).mono ?_; rintro e w2 ⟨rfl, hb2⟩; have HB2 := Lib.hid hb2; clear hb2)
    go_ret3
    exact ⟨(HX.out _ HB2.out).1, _, 0, by rw [HE.out]; rfl, fun _ => ⟨rfl, rfl⟩, fun h => absurd (HE.out.symm.trans h) HZN.out⟩
end Go.Proofs.Ytegclodchhcbaaa
