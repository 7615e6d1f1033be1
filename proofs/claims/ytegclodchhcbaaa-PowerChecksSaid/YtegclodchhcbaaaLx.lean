/- Walks: Live: ours. Printed by gen_lx8.py. -/
import Derived.Test.YtegclodchhcbaaaFc
import Derived.Test.YtegclodchhcbaaaCe
namespace Go.Proofs.Ytegclodchhcbaaa
open Go.RowKit

theorem BoolsA.congr {w : World} {B n : Nat} {A : Option Addr} {f f' : Nat → Bool} (h : BoolsA w B A n f) (he : ∀ i, i < n → f i = f' i) : BoolsA w B A n f' := ⟨h.1, fun hn => by
  obtain ⟨b, off, hA, hlt, hc⟩ := h.2 hn
  exact ⟨b, off, hA, hlt, fun i hi => by rw [hc i hi, he i hi]⟩⟩
/-- which nodes have power: the least set that loses nothing -/
def LiveP (g : MGrid) (F : List MFault) (w : World) (e : Ending) (w' : World) : Prop :=
  Below w.heap.size w w' ∧ ((checkGF g F ≠ 0 ∧ e = .returned (.tuple #[.slice none 0 0, .int .i64 (checkGF g F)])) ∨ (checkGF g F = 0 ∧ ∃ (n : Nat) (R : Nat → Bool) (A : Option Addr) (c : Nat), GridOk g n ∧ MostG g F [] n 0 R ∧ e = .returned (.tuple #[.slice A n c, .int .i64 0]) ∧ BoolsA w' w'.heap.size A n R))
theorem seen_most {N : Nat} {T : Tab} {b e : Nat} {back : Nat → Int} (hb : BackOk N T b back) (hT : ∀ x y, 0 ≤ T x y) (heN : e < N) (hbe : b ≠ e) (hz : ∀ x, x < N → x ≠ e → T x e = 0) : Most N T b e 0 (seen back) := by
  refine (LeftF.refl hT).most hb ?_
  rcases Int.lt_or_le (back e) 0 with h1 | h1
  · exact h1
  · have h2 := hb.within (S := fun x => decide (x ≠ e)) (by simpa using hbe) (fun x y hx hy hsx hlt => by
      have hxe : x ≠ e := by simpa using hsx
      by_cases hy2 : y = e
      · subst hy2
        rw [hz x hx hxe] at hlt
        omega
      · simpa using hy2) e heN h1
    simp at h2
theorem last_zero {g : MGrid} {n N b e : Nat} {F : List MFault} {T : Tab} (hT : ∀ x y, 0 ≤ T x y) (heN : e < N) (hbe : b ≠ e) (hc : ∀ S : Nat → Bool, S b = true → S e = false → cutN N T S = cutG g F [] S) (hg : GridOk g n) (hne : n ≤ e) : ∀ x, x < N → x ≠ e → T x e = 0 := fun x hx hxe => by
  have h1 := hc (fun y => decide (y ≠ e)) (by simpa using hbe) (by simp)
  have h2 : cutG g F [] (fun y => decide (y ≠ e)) = cutG g F [] (fun _ => true) := cutG_congr hg (fun _ h => by cases h) fun y hy => by simp; omega
  have h3 := cut_top hg F []
  have h4 := cut_nn (N := N) hT (fun y => decide (y ≠ e))
  have h5 : powS g [] = 0 := rfl
  rw [h1, h2] at h4
  have hz : cutN N T (fun y => decide (y ≠ e)) = 0 := by rw [h1, h2]; omega
  exact zero_cut hT hz hx heN (by simpa using hxe) (by simp)
set_option maxRecDepth 100000 in
set_option maxHeartbeats 8000000 in
theorem Live_any (g : MGrid) (A1 A2 A3 : Option Addr) (c1 c2 c3 : Nat) (A : Option Addr) (cap : Nat) (F : List MFault) (w : World) (h : GridA w w.heap.size g A1 A2 A3) (hf : FaultsA w w.heap.size A F) (hcap : F.length ≤ cap) :
    Calls Try.prog 33 #[.agg (gridC g A1 A2 A3 c1 c2 c3), .slice A F.length cap] w (LiveP g F w) := by
  obtain ⟨Z, hZ⟩ : ∃ Z, Z = Array.replicate 484 (Value.int .i64 0) := ⟨_, rfl⟩
  have hz86 := zero86.1
  have hZS : Z.size = 484 := by rw [hZ]; simp
  rw [← hZ] at hz86
  clear hZ
  obtain ⟨w1, hw1⟩ : ∃ w1, w.alloc (.cells #[.int .i64 g.nodes, .slice A1 g.lines.length c1, .slice A2 g.srcs.length c2, .slice A3 g.users.length c3] 26) = w1 := ⟨_, rfl⟩
  have hb1 : Below w.heap.size w w1 := by rw [← hw1]; exact (Below.refl _ _).alloc (Nat.le_refl _) _
  have hs1 : w1.heap.size = w.heap.size + 1 := by rw [← hw1]; simp
  have hx1 : w1.heap[w.heap.size]? = some (.cells #[.int .i64 g.nodes, .slice A1 g.lines.length c1, .slice A2 g.srcs.length c2, .slice A3 g.users.length c3] 26 (0, 0)) := by rw [← hw1]; exact heap_alloc_new w _
  have HX : Hid (∀ W, Below w1.heap.size w1 W → Below w.heap.size w W ∧ W.cell? ⟨w.heap.size, 0, none⟩ = some (.int .i64 g.nodes) ∧ W.cell? ⟨w.heap.size, 1, none⟩ = some (.slice A1 g.lines.length c1) ∧ W.cell? ⟨w.heap.size, 2, none⟩ = some (.slice A2 g.srcs.length c2) ∧ W.cell? ⟨w.heap.size, 3, none⟩ = some (.slice A3 g.users.length c3)) := fun W hW => by
    have h1 := (hW.block w.heap.size (by omega)).trans hx1
    exact ⟨hb1.trans (hW.mono (by omega)), cell_of_row W _ 0 _ _ _ h1, cell_of_row W _ 1 _ _ _ h1, cell_of_row W _ 2 _ _ _ h1, cell_of_row W _ 3 _ _ _ h1⟩
  have HG : Hid (∀ W, Below w.heap.size w W → GridA W W.heap.size g A1 A2 A3 ∧ FaultsA W W.heap.size A F) := fun W hW => ⟨(h.keep hW).more hW.size, (hf.keep hW).more hW.size⟩
  obtain ⟨_, p0, p1, p2, p3⟩ := HX.out w1 (Below.refl _ _)
  obtain ⟨E1, hE1⟩ : ∃ E1, checkG g = E1 := ⟨_, rfl⟩
  obtain ⟨E2, hE2⟩ : ∃ E2, checkF g F = E2 := ⟨_, rfl⟩
  have HCK := Lib.hid (fun W hW => check_any g A1 A2 A3 c1 c2 c3 W (HG.out W hW).1 hE1)
  have HZ : Hid (∀ e w', e = .returned (.tuple #[.slice none 0 0, .int .i64 (if E1 = 0 then E2 else E1)]) → (if E1 = 0 then E2 else E1) ≠ 0 → Below w.heap.size w w' → LiveP g F w e w') := fun e w' he hne hb => by
    have : checkGF g F = if E1 = 0 then E2 else E1 := by unfold checkGF; rw [hE1, hE2]
    exact ⟨hb, .inl ⟨by rw [this]; exact hne, by rw [this]; exact he⟩⟩
  have HY : Hid (E1 = 0 → E2 = 0 → ∀ w' (n : Nat) R A c, GridOk g n → MostG g F [] n 0 R → BoolsA w' w'.heap.size A n R → Below w.heap.size w w' → LiveP g F w (.returned (.tuple #[.slice A n c, .int .i64 0])) w') := fun h1 h2 w' n R A c hg hm hB hb => ⟨hb, .inr ⟨by unfold checkGF; rw [hE1, hE2, h1, h2]; rfl, n, R, A, c, hg, hm, rfl, hB⟩⟩
  unfold gridC at HCK ⊢
  clear h hf hb1 hx1
  by_cases hk : E1 = 0
  · subst hk
    obtain ⟨n, hgo⟩ := checkG_ok hE1
    have hn := hgo.few
    have hnn := hgo.nodes
    have HCF := Lib.hid (fun W hW => checkF_any g A1 A2 A3 c1 c2 c3 A cap F W (HG.out W hW).1 (HG.out W hW).2 hcap (by omega) hE2)
    have HLV : Hid (∀ W, Below w1.heap.size w1 W → Calls Try.prog 59 #[.agg #[.int .i64 g.nodes, .slice A1 g.lines.length c1, .slice A2 g.srcs.length c2, .slice A3 g.users.length c3], .slice A F.length cap] W fun e w' => ∃ C, e = .returned (.agg C) ∧ TabC C (srcsT F 20 g.srcs (linesT F g.lines zeroT g.lines.length) g.srcs.length) ∧ Below W.heap.size W w') := fun W hW => (live_any g n A1 A2 A3 c1 c2 c3 A cap F W (HG.out W (HX.out W hW).1).1 (HG.out W (HX.out W hW).1).2 hgo).mono fun _ _ ⟨⟨C, he, hC⟩, hb⟩ => ⟨C, he, hC, hb⟩
    have HBD : Hid (Bd (srcsT F 20 g.srcs (linesT F g.lines zeroT g.lines.length) g.srcs.length) 18600000) := (hgo.ourBd (F := F) (want := []) (b := 20) (e := 21) (fun _ h => by cases h) (by simp) (Nat.le_refl _))
    have HCT : Hid (∀ S : Nat → Bool, S 20 = true → S 21 = false → cutN 22 (srcsT F 20 g.srcs (linesT F g.lines zeroT g.lines.length) g.srcs.length) S = cutG g F [] S) := fun S h1 h2 => cut_ourT (want := []) hgo (fun _ h => by cases h) (by omega) (by decide) (by decide) h1 h2
    unfold gridC at HCF
    rw [hnn] at HCK HCF HLV p0 hw1 ⊢
    have HGO := Lib.hid hgo
    clear hE1 hE2 hgo
    generalize (srcsT F 20 g.srcs (linesT F g.lines zeroT g.lines.length) g.srcs.length) = T at *
    by_cases hk2 : E2 = 0
    · subst hk2
      go_enter Try.func33, Try.ntmps33
      go_upto_region 8 with (first
        | (go_at_call 35; refine (HCK.out _ (HX.out _ (Below.refl _ _)).1).mono ?_; rintro e w2 ⟨rfl, hb2⟩; have HB2 := Lib.hid hb2; clear hb2 p0 p1 p2 p3; obtain ⟨_, p0, p1, p2, p3⟩ := HX.out w2 HB2.out; rw [HGO.out.nodes] at p0)
        | (go_at_call 54; refine (HCF.out _ (HX.out _ HB2.out).1).mono ?_; rintro e w3 ⟨rfl, hb3⟩; have HB3 : Hid (Below w1.heap.size w1 w3) := HB2.out.trans (hb3.mono HB2.out.size); clear hb3 p0 p1 p2 p3; obtain ⟨_, p0, p1, p2, p3⟩ := HX.out w3 HB3.out; rw [HGO.out.nodes] at p0)
        | (go_at_call 59; refine (HLV.out _ HB3.out).mono ?_; rintro e w5 ⟨C, rfl, hC, hb5⟩; have HC := Lib.hid hC; have HB5 : Hid (Below w1.heap.size w1 w5) := HB3.out.trans (hb5.mono HB3.out.size); clear hC hb5 p0 p1 p2 p3)
        | (refine wpList_store_row rfl 86 _ _ rfl w5.heap.size C rfl rfl 86 _ (heap_alloc_new w5 _) HC.out.sz (by rw [HC.out.1, hZS]) HC.out.one ?_; rw [World.setRow_alloc_new]))
      obtain ⟨w6, hw6⟩ : ∃ w6, w5.alloc (.cells C 86) = w6 := ⟨_, rfl⟩
      have ht6 : TabA w6 w5.heap.size T := by rw [← hw6]; exact ⟨C, heap_alloc_new w5 _, HC.out⟩
      have HB6 : Hid (Below w1.heap.size w1 w6) := by show Below _ _ _; rw [← hw6]; exact HB5.out.alloc HB5.out.size _
      rw [hw6]
      have HRC := Lib.hid (reach_any w5.heap.size T 20 w6 ht6 (by decide))
      clear hw6 ht6
      generalize w5.heap.size = tb at *
      go_upto_region 9 with (first
        | (go_at_call 67; refine HRC.out.mono ?_; rintro e w7 ⟨⟨C7, back, rfl, hC, hBK⟩, hb7⟩; have HC7 := Lib.hid hC; have HBK := Lib.hid hBK; have HB7 : Hid (Below w1.heap.size w1 w7) := HB6.out.trans (hb7.mono HB6.out.size); clear hC hBK hb7)
        | (refine wpList_store_row rfl 83 _ _ rfl w7.heap.size C7 rfl rfl 83 _ (heap_alloc_new w7 _) HC7.out.sz (by rw [HC7.out.1]; rfl) HC7.out.one ?_; rw [World.setRow_alloc_new]))
      obtain ⟨w8, hw8⟩ : ∃ w8, w7.alloc (.cells C7 83) = w8 := ⟨_, rfl⟩
      have hg8 : RowA w8 w7.heap.size back := by rw [← hw8]; exact ⟨C7, heap_alloc_new w7 _, HC7.out⟩
      have HB8 : Hid (Below w1.heap.size w1 w8) := by show Below _ _ _; rw [← hw8]; exact HB7.out.alloc HB7.out.size _
      have HG8 := Lib.hid hg8
      rw [hw8]
      have HMO : Hid (MostG g F [] n 0 (seen back)) := by
        have hT : ∀ x y, 0 ≤ T x y := fun x y => (HBD.out x y).1
        have hm := seen_most HBK.out hT (by decide) (by decide) (last_zero (n := n) (b := 20) hT (by decide) (by decide) HCT.out HGO.out (by omega))
        exact hm.grid HCT.out HGO.out (fun _ h => by cases h) (by omega) (by omega) (by omega) (by decide)
      clear hw8 hg8 hz86 hZS
      generalize w7.heap.size = rb at *
      obtain ⟨_, p0, p1, p2, p3⟩ := HX.out w8 HB8.out
      rw [HGO.out.nodes] at p0
      go_wp2_with (at_make; refine mk_bools _ rfl _ _ rfl n rfl rfl (by omega) ?_; intro w9 hO9 hb9; have HO9 := Lib.hid hO9; have HB9 := Lib.hid hb9; clear hO9 hb9 p0 p1 p2 p3)
      have HG9 : Hid (∀ W, Below w8.heap.size w8 W → RowA W rb back) := fun W hW => HG8.out.keep (hW.block _ HG8.out.lt)
      have HS8 : Hid (rb < w8.heap.size) := HG8.out.lt
      go_loopw [32] (fun vi wr => ∃ k : Nat, k ≤ n ∧ vi = .int .i64 k ∧ Hid (Below w8.heap.size w8 wr) ∧ Hid (OwnF wr w8.heap.size 4 n (fun t => .bool (decide (t < k) && seen back t)))) (fun vi _ => n - (intOf vi).toNat)
      case atStart => exact ⟨0, Nat.zero_le _, rfl, HB9.out, HO9.out.congr fun t _ => by simp⟩
      case round =>
        clear HB9 HO9
        obtain ⟨k, hk, rfl, HB, HO⟩ := hrel
        rename World => wr
        by_cases hlt : k < n
        · have HLT := Lib.hid hlt
          have x0 := (HG9.out wr HB.out).cell (show k < 22 by omega)
          have k0 := HO.out.cell hlt
          have f0 := HO.out.frozen k
          have HST : Hid (∀ b, b = seen back k → OwnF (wr.setCell ⟨w8.heap.size, k, none⟩ (.bool b)) w8.heap.size 4 n (fun t => .bool (decide (t < k + 1) && seen back t))) := fun b hb => (HO.out.set k _).congr fun t _ => by
            by_cases e : t = k
            · subst e; simp [hb]
            · simp only [e, if_false]
              congr 2
              simp only [decide_eq_decide]
              omega
          have HBS : Hid (∀ b, Below w8.heap.size w8 (wr.setCell ⟨w8.heap.size, k, none⟩ (.bool b))) := fun b => HB.out.setCell (p := ⟨w8.heap.size, k, none⟩) (Nat.le_refl _) _
          have HSE : Hid (seen back k = decide (0 ≤ back k)) := rfl
          generalize back k = bk at *
          go_wp2_with fail
          go_roundw
          case rel => exact ⟨k + 1, HLT.out, by go_num, HBS.out _, HST.out _ HSE.out.symm⟩
          case measure => simp [intOf]; have := HLT.out; omega
        · obtain rfl : k = n := by omega
          have HFN : Hid (BoolsA wr wr.heap.size (some ⟨w8.heap.size, 0, none⟩) k (seen back)) := ⟨by unfold maxLen; omega, fun _ => ⟨_, 0, rfl, HO.out.lt, fun i hi => by rw [Nat.zero_add, HO.out.cell hi, decide_eq_true hi]; rfl⟩⟩
          go_wp2_with fail
          go_ret2
          exact HY.out (by simp) (by simp) _ _ _ _ _ HGO.out HMO.out HFN.out (HX.out _ (HB8.out.trans (HB.out.mono HB8.out.size))).1
    · have hz' : (E2 != 0) = true := by simpa using hk2
      have HZN : Hid (E2 ≠ 0) := hk2
      clear hk2
      go_enter Try.func33, Try.ntmps33
      go_wp2_with (first
        | (go_at_call 35; refine (HCK.out _ (HX.out _ (Below.refl _ _)).1).mono ?_; rintro e w2 ⟨rfl, hb2⟩; have HB2 := Lib.hid hb2; clear hb2 p0 p1 p2 p3; obtain ⟨_, p0, p1, p2, p3⟩ := HX.out w2 HB2.out; rw [HGO.out.nodes] at p0)
        | (go_at_call 54; refine (HCF.out _ (HX.out _ HB2.out).1).mono ?_; rintro e w3 ⟨rfl, hb3⟩; have HB3 : Hid (Below w1.heap.size w1 w3) := HB2.out.trans (hb3.mono HB2.out.size); clear hb3 p0 p1 p2 p3)
        | fail)
      go_ret2
      exact HZ.out _ _ rfl HZN.out (HX.out _ HB3.out).1
  · have hz' : (E1 != 0) = true := by simpa using hk
    have HZN : Hid ((if E1 = 0 then E2 else E1) = E1 ∧ E1 ≠ 0) := ⟨if_neg hk, hk⟩
    clear hk hE1 hE2
    go_enter Try.func33, Try.ntmps33
    go_wp2_with (go_at_call 35; refine (HCK.out _ (HX.out _ (Below.refl _ _)).1).mono ?_; rintro e w2 ⟨rfl, hb2⟩; have HB2 := Lib.hid hb2; clear hb2 p0 p1 p2 p3)
    go_ret2
    exact HZ.out _ _ (by rw [HZN.out.1]; rfl) (by rw [HZN.out.1]; exact HZN.out.2) (HX.out _ HB2.out).1
end Go.Proofs.Ytegclodchhcbaaa
