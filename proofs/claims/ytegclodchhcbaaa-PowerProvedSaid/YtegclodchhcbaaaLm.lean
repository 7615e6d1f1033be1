/- Walks: the limit of a set of nodes. -/
import Derived.Test.YtegclodchhcbaaaSd
namespace Go.Proofs.Ytegclodchhcbaaa
open Go.RowKit

/-- the places in a set, and the supply -/
def inS (n : Nat) (l : List Int) (x : Nat) : Bool := decide (x = n) || hasI l x
theorem inS_step {n : Nat} {l : List Int} {x u : Nat} : inS n (l ++ [(u : Int)]) x = if x = u then true else inS n l x := by
  unfold inS
  rw [hasI_app]
  by_cases h : x = u
  · rw [if_pos h, decide_eq_true (show (x : Int) = u by omega)]; simp
  · rw [if_neg h, decide_eq_false (show ¬ (x : Int) = u by omega)]; simp
theorem take_step {l : List Int} {i : Nat} (h : i < l.length) : l.take (i + 1) = l.take i ++ [l.getD i 0] := by
  rw [List.take_add_one, List.getElem?_eq_getElem h, List.getD_eq_getElem?_getD, List.getElem?_eq_getElem h]
  rfl
theorem edge_bd {c : Tab} {m : Int} (h : Bd c m) (S : Nat → Bool) (i k : Nat) : 0 ≤ edge c S i k ∧ edge c S i k ≤ m := by
  have h1 := h i k
  have h2 := h 0 0
  unfold edge
  split <;> omega
theorem sum_bd {f : Nat → Int} {m : Int} (h : ∀ k, 0 ≤ f k ∧ f k ≤ m) (k : Nat) : 0 ≤ sumN f k ∧ sumN f k ≤ k * m := ⟨sumN_nn fun j _ => (h j).1, sum_le_m k fun j _ => (h j).2⟩
set_option maxRecDepth 100000 in
set_option maxHeartbeats 4000000 in
theorem limit_any (g : MGrid) (A1 A2 A3 : Option Addr) (c1 c2 c3 : Nat) (A : Option Addr) (cap : Nat) (F : List MFault) (Aw : Option Addr) (wc : Nat) (want : List Int) (An : Option Addr) (nc : Nat) (nodes : List Int) (w : World) (h : GridA w w.heap.size g A1 A2 A3) (hf : FaultsA w w.heap.size A F) (hw : IntsA w w.heap.size Aw want) (hn : IntsA w w.heap.size An nodes) {n : Nat} (hg : GridOk g n) (hwo : WantOk g want) (hwl : want.length ≤ 100) (hno : ∀ x ∈ nodes, 0 ≤ x ∧ x < n) :
    Calls Try.prog 32 #[.agg (gridC g A1 A2 A3 c1 c2 c3), .slice A F.length cap, .slice Aw want.length wc, .slice An nodes.length nc] w fun e w' => e = .returned (.int .i64 (cutG g F want fun x => hasI nodes x)) ∧ Below w.heap.size w w' := by
  obtain ⟨w1, hw1⟩ : ∃ w1, w.alloc (.cells #[.int .i64 g.nodes, .slice A1 g.lines.length c1, .slice A2 g.srcs.length c2, .slice A3 g.users.length c3] 26) = w1 := ⟨_, rfl⟩
  have hb1 : Below w.heap.size w w1 := by rw [← hw1]; exact (Below.refl _ _).alloc (Nat.le_refl _) _
  have hs1 : w1.heap.size = w.heap.size + 1 := by rw [← hw1]; simp
  have hx1 : w1.heap[w.heap.size]? = some (.cells #[.int .i64 g.nodes, .slice A1 g.lines.length c1, .slice A2 g.srcs.length c2, .slice A3 g.users.length c3] 26 (0, 0)) := by rw [← hw1]; exact heap_alloc_new w _
  have HX : Hid (∀ W, Below w1.heap.size w1 W → Below w.heap.size w W ∧ W.cell? ⟨w.heap.size, 0, none⟩ = some (.int .i64 (n : Int))) := fun W hW => by
    have h1 := (hW.block w.heap.size (by omega)).trans hx1
    exact ⟨hb1.trans (hW.mono (by omega)), by rw [← hg.nodes]; exact cell_of_row W _ 0 _ _ _ h1⟩
  have HN : Hid (∀ W, Below w1.heap.size w1 W → IntsA W W.heap.size An nodes) := fun W hW => by
    have hb := (HX.out W hW).1
    exact (hn.below hb (Nat.le_refl _)).more hb.size
  have p0 := cell_of_row w1 _ 0 _ _ _ hx1
  have p1 := cell_of_row w1 _ 1 _ _ _ hx1
  have p2 := cell_of_row w1 _ 2 _ _ _ hx1
  have p3 := cell_of_row w1 _ 3 _ _ _ hx1
  simp only [List.getElem?_toArray, List.getElem?_cons_succ, List.getElem?_cons_zero] at p0 p1 p2 p3
  have hb11 : Below w.heap.size w w1 := hb1
  have HRM := Lib.hid (room_any g n A1 A2 A3 c1 c2 c3 A cap F Aw wc want w1 ((h.keep hb11).more hb11.size) ((hf.keep hb11).more hb11.size) ((hw.below hb11 (Nat.le_refl _)).more hb11.size) hg hwo hwl)
  have hfew := hg.few
  have hbd : Bd (refT g F want n (n + 1)) 18600000 := hg.refBd hwo hwl (Nat.le_refl _)
  have HEB : Hid (∀ i k, 0 ≤ edge (refT g F want n (n + 1)) (inS n nodes) i k ∧ edge (refT g F want n (n + 1)) (inS n nodes) i k ≤ 18600000) := edge_bd hbd _
  have HCU : Hid (cutN (n + 2) (refT g F want n (n + 1)) (inS n nodes) = cutG g F want fun x => hasI nodes x) := by
    show _ = _
    rw [cut_refT hg hwo (by omega) (by omega) (by omega) (by unfold inS; simp) (by
      unfold inS
      rw [decide_eq_false (by omega), Bool.false_or, Bool.eq_false_iff]
      intro hc
      unfold hasI at hc
      have := hno _ (by simpa using hc)
      omega)]
    exact cutG_congr hg hwo fun x hx => by
      unfold inS
      rw [decide_eq_false (by omega), Bool.false_or]
  have HNO := Lib.hid hno
  have hnl : nodes.length ≤ maxLen := hn.1
  unfold maxLen at hnl
  have HS1 := Lib.hid hs1
  unfold gridC at HRM ⊢
  rw [hg.nodes] at HRM ⊢ p0 hw1
  clear h hf hw hn hg hb1 hb11 hx1 hwo hno hbd
  generalize refT g F want n (n + 1) = T at *
  go_enter Try.func32, Try.ntmps32
  go_wp2_with (first
    | (go_at_call 63; refine HRM.out.mono ?_; rintro e w2 ⟨⟨tb, rb, rfl, hr2⟩, hb2⟩; have HR2 := Lib.hid hr2; have HB2 := Lib.hid hb2; clear hr2 p0 p1 p2 p3; have p0 := (HX.out w2 hb2).2; clear hb2)
    | (at_make; refine mk_bools _ rfl _ _ rfl (n + 2) rfl (by first | rfl | skip) (by omega) ?_; intro w3 hO3 hb3; have HO3 := Lib.hid hO3; have HB3 := Lib.hid hb3; clear p0; have p0 := (HX.out w3 (HB2.out.trans (hb3.mono HB2.out.size))).2; have k0 := hO3.cell (show n < n + 2 by omega); have f0 := hO3.frozen n; clear hO3 hb3)
    | fail)
  have HB3w : Hid (Below w1.heap.size w1 w3) := HB2.out.trans (HB3.out.mono HB2.out.size)
  have hls : w1.heap.size ≤ w2.heap.size := HB2.out.size
  have HLS := Lib.hid hls
  have HR3 : Hid (RTabA w3 w1.heap.size tb (n + 2) rb T) := HR2.out.below HB3.out (Nat.le_refl _)
  have HRT : Hid (∀ W, Below w2.heap.size w2 W → RTabA W w1.heap.size tb (n + 2) rb T) := fun W hW => HR2.out.below hW (Nat.le_refl _)
  have HTB : Hid (tb < w2.heap.size ∧ ∀ i, i < n + 2 → rb i < w2.heap.size) := ⟨HR2.out.out.lt, fun i hi => (HR2.out.row i hi).lt⟩
  have HBS : Hid (Below w2.heap.size w3 (w3.setCell ⟨w2.heap.size, n, none⟩ (.bool true))) := (Below.refl _ _).setCell (p := ⟨w2.heap.size, n, none⟩) (Nat.le_refl _) _
  have HO4 : Hid (OwnF (w3.setCell ⟨w2.heap.size, n, none⟩ (.bool true)) w2.heap.size 4 (n + 2) (fun x => .bool (inS n [] x))) := (HO3.out.set n _).congr fun x _ => by
    unfold inS hasI
    by_cases e : x = n <;> simp [e]
  have HB4 : Hid (Below w2.heap.size w2 (w3.setCell ⟨w2.heap.size, n, none⟩ (.bool true))) := HB3.out.trans HBS.out
  clear p0 k0 f0 HB3 HO3 HR2 HBS HR3 HB3w HRM
  generalize w3.setCell ⟨w2.heap.size, n, none⟩ (.bool true) = w4 at *
  go_loopw [11] (fun vi wr => ∃ i : Nat, i ≤ nodes.length ∧ vi = .int .i64 i ∧ Hid (Below w2.heap.size w2 wr) ∧ Hid (OwnF wr w2.heap.size 4 (n + 2) (fun x => .bool (inS n (nodes.take i) x)))) (fun vi _ => nodes.length - (intOf vi).toNat)
  case atStart => exact ⟨0, Nat.zero_le _, rfl, HB4.out, HO4.out⟩
  case round =>
    clear HB4 HO4
    obtain ⟨i, hi, rfl, HB, HO⟩ := hrel
    rename World => wr
    have HBW : Hid (Below w1.heap.size w1 wr) := HB2.out.trans (HB.out.mono HB2.out.size)
    by_cases hlt : i < nodes.length
    · obtain ⟨b9, o9, hA9, hb9, c0⟩ := (HN.out wr HBW.out).at_ hlt
      subst hA9
      have HLT := Lib.hid hlt
      obtain ⟨u, hu, hul⟩ : ∃ u : Nat, nodes.getD i 0 = (u : Int) ∧ u < n := by
        have := HNO.out _ (getD_mem_of hlt 0)
        exact ⟨(nodes.getD i 0).toNat, by omega, by omega⟩
      have HTK : Hid (nodes.take (i + 1) = nodes.take i ++ [(u : Int)]) := by
        show _ = _
        rw [take_step hlt, hu]
      rw [hu] at c0
      have k0 := HO.out.cell (show u < n + 2 by omega)
      have f0 := HO.out.frozen u
      have HO5 : Hid (OwnF (wr.setCell ⟨w2.heap.size, u, none⟩ (.bool true)) w2.heap.size 4 (n + 2) (fun x => .bool (inS n (nodes.take (i + 1)) x))) := (HO.out.set u _).congr fun x _ => by
        rw [HTK.out, inS_step]
        by_cases e : x = u <;> simp [e]
      have HB5 : Hid (Below w2.heap.size w2 (wr.setCell ⟨w2.heap.size, u, none⟩ (.bool true))) := HB.out.setCell (p := ⟨w2.heap.size, u, none⟩) (Nat.le_refl _) _
      clear hu
      generalize inS n (nodes.take i) u = bu at *
      go_wp2_with fail
      go_roundw
      case rel => exact ⟨i + 1, HLT.out, by go_num, HB5, HO5⟩
      case measure => simp [intOf]; have := HLT.out; omega
    · obtain rfl : i = nodes.length := by omega
      have hrt := HRT.out wr HB.out
      have HCT : Hid (∀ a b, a < n + 2 → b < n + 2 → wr.cell? ⟨tb, a, none⟩ = some (.slice (some ⟨rb a, 0, none⟩) (n + 2) (n + 2)) ∧ wr.cell? ⟨rb a, b, none⟩ = some (.int .i64 (T a b)) ∧ wr.cell? ⟨w2.heap.size, a, none⟩ = some (.bool (inS n nodes a)) ∧ wr.cell? ⟨w2.heap.size, b, none⟩ = some (.bool (inS n nodes b))) := fun a b ha hb => ⟨hrt.out.cell ha, (hrt.row a ha).cell hb, by have := HO.out.cell ha; rwa [List.take_length] at this, by have := HO.out.cell hb; rwa [List.take_length] at this⟩
      obtain ⟨RS, hRS⟩ : ∃ RS : Nat → Int, RS = fun i => sumN (fun k => edge T (inS n nodes) i k) (n + 2) := ⟨_, rfl⟩
      have HRS : Hid (∀ i, RS i = sumN (fun k => edge T (inS n nodes) i k) (n + 2)) := fun i => by rw [hRS]
      have HRB : Hid (∀ i, 0 ≤ RS i ∧ RS i ≤ 409200000) := fun i => by
        rw [hRS]
        have := sum_bd (HEB.out i) (n + 2)
        refine ⟨this.1, Int.le_trans this.2 ?_⟩
        push_cast
        omega
      have HFN : Hid (sumN RS (n + 2) = cutG g F want fun x => hasI nodes x) := by
        show _ = _
        rw [← HCU.out, hRS]
        rfl
      have HQ := Lib.hid HBW.out
      clear hrt hRS HO HB HBW
      go_wp2_with fail
      go_loopw [13, 12] (fun vi vs wz => ∃ i : Nat, i ≤ n + 2 ∧ vi = .int .i64 i ∧ vs = .int .i64 (sumN RS i) ∧ wz = wr) (fun vi _ _ => n + 2 - (intOf vi).toNat)
      case atStart => exact ⟨0, Nat.zero_le _, rfl, rfl, rfl⟩
      case round =>
        obtain ⟨i, hi, rfl, rfl, rfl⟩ := hrel
        by_cases hlt : i < n + 2
        · have HLT := Lib.hid hlt
          have hs0 := sum_bd HRB.out i
          have hs1 : 0 ≤ sumN RS i ∧ sumN RS i ≤ 9002400000 := ⟨hs0.1, by omega⟩
          have HST : Hid (sumN RS (i + 1) = sumN RS i + RS i) := rfl
          have HRI := Lib.hid (HRS.out i)
          have HEI := Lib.hid (HEB.out i)
          clear hs0
          go_wp2_with fail
          go_loopw [14, 12] (fun vk vs wz => ∃ k : Nat, k ≤ n + 2 ∧ vk = .int .i64 k ∧ vs = .int .i64 (sumN RS i + sumN (fun k => edge T (inS n nodes) i k) k) ∧ wz = wr) (fun vk _ _ => n + 2 - (intOf vk).toNat)
          case atStart => exact ⟨0, Nat.zero_le _, rfl, by simp [sumN], rfl⟩
          case round =>
            obtain ⟨k, hk, rfl, rfl, rfl⟩ := hrel
            by_cases hlk : k < n + 2
            · have HLK := Lib.hid hlk
              have hq0 : 0 ≤ sumN (fun k => edge T (inS n nodes) i k) k ∧ sumN (fun k => edge T (inS n nodes) i k) k ≤ k * 18600000 := sum_bd HEI.out k
              have hq1 : 0 ≤ sumN (fun k => edge T (inS n nodes) i k) k ∧ sumN (fun k => edge T (inS n nodes) i k) k ≤ 409200000 := ⟨hq0.1, by omega⟩
              obtain ⟨x0, x1, x2, x3⟩ := HCT.out i k hlt hlk
              have hee := HEI.out k
              have HSK : Hid (sumN (fun k => edge T (inS n nodes) i k) (k + 1) = sumN (fun k => edge T (inS n nodes) i k) k + edge T (inS n nodes) i k) := rfl
              clear hq0
              generalize sumN (fun k => edge T (inS n nodes) i k) k = SK at *
              have HED : Hid (edge T (inS n nodes) i k = if inS n nodes i = true ∧ inS n nodes k = false then T i k else 0) := rfl
              generalize inS n nodes i = ai at *
              generalize inS n nodes k = bk at *
              generalize edge T (inS n nodes) i k = ek at *
              generalize T i k = tk at *
              rcases ai with _ | _
              · have hek : ek = 0 := by have := HED.out; simpa using this
                have HEK := Lib.hid hek
                clear hek
                go_wp2_with fail
                go_roundw
                case rel => exact ⟨k + 1, HLK.out, by go_num, by rw [HSK.out, HEK.out, Int.add_zero], trivial⟩
                case measure => simp [intOf]; have := HLK.out; omega
              · rcases bk with _ | _
                · have hek : ek = tk := by have := HED.out; simpa using this
                  subst hek
                  have e1 : IntKind.i64.wrap (sumN RS i + SK + ek) = sumN RS i + SK + ek := IntWalk.i64_in _ (by omega)
                  go_wp2_with fail
                  go_roundw
                  case rel => exact ⟨k + 1, HLK.out, by go_num, by rw [HSK.out, Int.add_assoc], trivial⟩
                  case measure => simp [intOf]; have := HLK.out; omega
                · have hek : ek = 0 := by have := HED.out; simpa using this
                  have HEK := Lib.hid hek
                  clear hek
                  go_wp2_with fail
                  go_roundw
                  case rel => exact ⟨k + 1, HLK.out, by go_num, by rw [HSK.out, HEK.out, Int.add_zero], trivial⟩
                  case measure => simp [intOf]; have := HLK.out; omega
            · obtain rfl : k = n + 2 := by omega
              have hsum : sumN RS i + sumN (fun k => edge T (inS n nodes) i k) (n + 2) = sumN RS (i + 1) := by rw [HST.out, HRI.out]
              rw [hsum]
              go_wp2_with fail
              go_roundw
              case rel => exact ⟨i + 1, HLT.out, by go_num, rfl, trivial⟩
              case measure => simp [intOf]; have := HLT.out; omega
        · obtain rfl : i = n + 2 := by omega
          go_wp2_with fail
          go_ret
          exact ⟨ret_i HFN.out, (HX.out _ HQ.out).1⟩
end Go.Proofs.Ytegclodchhcbaaa
