/- Walks: Live: the reference's. Printed by gen_ly8.py. -/
import Derived.Test.YtegclodchhcbaaaLx
import Derived.Test.YtegclodchhcbaaaRp
namespace Go.Proofs.Ytegclodchhcbaaa
open Go.RowKit

/-- bools in a row that is appended to -/
def OutB (w : World) (base : Nat) (v : Value) (l : List Bool) : Prop := w.ownsRow base 4 1 v l.length (l.map Value.bool)
section
variable {ops : Array Oper} {rest : List Oper} {o : Oper} {a : Act} {Q : Exit → Act → World → Prop}
theorem app_bool (w : World) (hg : o.guard = none) (s x : Operand) (ho : o.op = .call { callee := .builtin .append, args := #[s, x], argTypes := #[33, 33] }) (base : Nat) (v : Value) (l : List Bool)
    (hs : a.eval s = v) (hown : OutB w base v l) (wb : Nat) (y : Bool) (hx : a.eval x = .slice (some ⟨wb, 0, none⟩) 1 1) (hy : w.cell? ⟨wb, 0, none⟩ = some (.bool y)) (hlen : l.length ≤ 1000000) (hbase : base ≤ w.heap.size)
    (hK : ∀ v' w', OutB w' base v' (l ++ [y]) → w.grownBy w' v.ownBlock → wpList Try.prog ops Q rest (a.put o.dst v') w') : wpList Try.prog ops Q (o :: rest) a w := by
  obtain ⟨i0, hi, hz0, hz1, hz2⟩ := info_parts info_bool
  refine wpList_append_own w hg s x 33 ho base 4 i0 (.bool false) 1 1 under_bools hi hz0 hz1 hz2 rfl (by decide) v l.length _ hs hown ⟨wb, 0, none⟩ 1 1 [.bool y] hx rfl ?_ ?_ (by unfold maxLen; omega) (by omega) hbase (fun v' w' h1 h2 _ => hK v' w' ?_ h2)
  · intro j u hj
    cases j with
    | zero => simp at hj; subst hj; simpa [Addr.add] using hy
    | succ j => simp at hj
  · intro u hu; simp at hu; subst hu; rfl
  · unfold OutB
    rw [List.length_append, List.map_append]
    exact h1
end
theorem OutB.reads {w : World} {base : Nat} {v : Value} {l : List Bool} (h : OutB w base v l) : ∃ A cap, v = .slice A l.length cap ∧ BoolsA w w.heap.size A l.length (fun i => l.getD i false) := by
  obtain ⟨hl, h'⟩ := id h
  rcases h' with ⟨hv, h0⟩ | ⟨g, cap, cur, hv, hb, hh, hn, hm, hsz, htk⟩
  · exact ⟨none, 0, by rw [hv, h0], by omega, fun hn => by omega⟩
  · subst hv
    have hlt := (show w.ownsRow base 4 1 (.slice (some ⟨g, 0, none⟩) l.length cap) l.length (l.map Value.bool) from h).lt g rfl
    refine ⟨_, cap, rfl, by omega, fun _ => ⟨g, 0, rfl, hlt.2, fun i hi => ?_⟩⟩
    have := World.ownsRow.cellAt h i (by omega)
    rw [Nat.zero_add, this]
    simp [hi]
def seenL (back : Nat → Int) (k : Nat) : List Bool := (List.range k).map (seen back)
theorem seenL_len (back : Nat → Int) (k : Nat) : (seenL back k).length = k := by unfold seenL; simp
theorem seenL_step (back : Nat → Int) (k : Nat) : seenL back (k + 1) = seenL back k ++ [seen back k] := by unfold seenL; rw [List.range_succ, List.map_append]; rfl
theorem seenL_at {back : Nat → Int} {k i : Nat} (hi : i < k) : (seenL back k).getD i false = seen back i := by
  unfold seenL
  rw [List.getD_eq_getElem?_getD, List.getElem?_map, List.getElem?_range hi]
  rfl
set_option maxRecDepth 100000 in
set_option maxHeartbeats 8000000 in
theorem rLive_any (g : MGrid) (A1 A2 A3 : Option Addr) (c1 c2 c3 : Nat) (A : Option Addr) (cap : Nat) (F : List MFault) (w : World) (h : GridA w w.heap.size g A1 A2 A3) (hf : FaultsA w w.heap.size A F) :
    Calls Try.prog 34 #[.agg (gridC g A1 A2 A3 c1 c2 c3), .slice A F.length cap] w (LiveP g F w) := by
  obtain ⟨w1, hw1⟩ : ∃ w1, w.alloc (.cells #[.int .i64 g.nodes, .slice A1 g.lines.length c1, .slice A2 g.srcs.length c2, .slice A3 g.users.length c3] 26) = w1 := ⟨_, rfl⟩
  have hb1 : Below w.heap.size w w1 := by rw [← hw1]; exact (Below.refl _ _).alloc (Nat.le_refl _) _
  have hs1 : w1.heap.size = w.heap.size + 1 := by rw [← hw1]; simp
  have hx1 : w1.heap[w.heap.size]? = some (.cells #[.int .i64 g.nodes, .slice A1 g.lines.length c1, .slice A2 g.srcs.length c2, .slice A3 g.users.length c3] 26 (0, 0)) := by rw [← hw1]; exact heap_alloc_new w _
  have HX : Hid (∀ W, Below w1.heap.size w1 W → Below w.heap.size w W ∧ W.cell? ⟨w.heap.size, 0, none⟩ = some (.int .i64 g.nodes) ∧ W.cell? ⟨w.heap.size, 1, none⟩ = some (.slice A1 g.lines.length c1) ∧ W.cell? ⟨w.heap.size, 2, none⟩ = some (.slice A2 g.srcs.length c2) ∧ W.cell? ⟨w.heap.size, 3, none⟩ = some (.slice A3 g.users.length c3)) := fun W hW => by
    have h1 := (hW.block w.heap.size (by omega)).trans hx1
    exact ⟨hb1.trans (hW.mono (by omega)), cell_of_row W _ 0 _ _ _ h1, cell_of_row W _ 1 _ _ _ h1, cell_of_row W _ 2 _ _ _ h1, cell_of_row W _ 3 _ _ _ h1⟩
  have HG : Hid (∀ W, Below w.heap.size w W → GridA W W.heap.size g A1 A2 A3 ∧ FaultsA W W.heap.size A F) := fun W hW => ⟨(h.keep hW).more hW.size, (hf.keep hW).more hW.size⟩
  obtain ⟨_, p0, p1, p2, p3⟩ := HX.out w1 (Below.refl _ _)
  obtain ⟨E, hE⟩ : ∃ E, checkGF g F = E := ⟨_, rfl⟩
  have HE := Lib.hid hE
  have HCK := Lib.hid (fun W hW => rcheckGF_any g A1 A2 A3 c1 c2 c3 A cap F W (HG.out W hW).1 (HG.out W hW).2 hE)
  unfold gridC at HCK ⊢
  clear h hf hb1 hx1
  by_cases hz : E = 0
  · subst hz
    obtain ⟨n, hgo⟩ := checkG_ok (checkGF_ok hE).1
    have hn := hgo.few
    have hnn := hgo.nodes
    have HRM : Hid (∀ W, Below w.heap.size w W → Calls Try.prog 63 #[.agg (gridC g A1 A2 A3 c1 c2 c3), .slice A F.length cap, .slice none 0 0] W fun e w' => (∃ tb rb, e = .returned (.slice (some ⟨tb, 0, none⟩) (n + 2) (n + 2)) ∧ RTabA w' W.heap.size tb (n + 2) rb (refT g F [] n (n + 1))) ∧ Below W.heap.size W w') := fun W hW => room_any g n A1 A2 A3 c1 c2 c3 A cap F none 0 [] W (HG.out W hW).1 (HG.out W hW).2 ⟨Nat.zero_le _, fun h => by simp at h⟩ hgo (fun _ h => by cases h) (by simp)
    have HBD : Hid (Bd (refT g F [] n (n + 1)) 18600000) := hgo.refBd (F := F) (want := []) (fun _ h => by cases h) (by simp) (Nat.le_refl _)
    have HCT : Hid (∀ S : Nat → Bool, S n = true → S (n + 1) = false → cutN (n + 2) (refT g F [] n (n + 1)) S = cutG g F [] S) := fun S h1 h2 => cut_refT (want := []) hgo (fun _ h => by cases h) (by omega) (by omega) (by omega) h1 h2
    have HGO := Lib.hid hgo
    unfold gridC at HRM
    rw [hnn] at HCK HRM p0 hw1 ⊢
    clear hE hgo
    generalize refT g F [] n (n + 1) = T at *
    go_enter Try.func34, Try.ntmps34
    go_wp2_with (first
      | (go_at_call 56; refine (HCK.out _ (HX.out _ (Below.refl _ _)).1).mono ?_; rintro e w2 ⟨rfl, hb2⟩; have HB2 := Lib.hid hb2; clear hb2 p0 p1 p2 p3; obtain ⟨_, p0, p1, p2, p3⟩ := HX.out w2 HB2.out; rw [HGO.out.nodes] at p0)
      | (go_at_call 63; refine (HRM.out _ (HX.out _ HB2.out).1).mono ?_; rintro e w3 ⟨⟨tb, rb, rfl, hr3⟩, hb3⟩; have HR3 := Lib.hid hr3; have HB3 : Hid (Below w1.heap.size w1 w3) := HB2.out.trans (hb3.mono HB2.out.size); clear hr3 hb3 p0 p1 p2 p3)
      | (go_at_call 68; refine (before_any _ tb (n + 2) rb T w3 HR3.out (by omega)).mono ?_; rintro e w4 ⟨⟨fb, back, rfl, ho4, hfb, hbk⟩, hb4⟩; have HO4 := Lib.hid ho4; have HBK := Lib.hid hbk; have HB4 : Hid (Below w1.heap.size w1 w4) := HB3.out.trans (hb4.mono HB3.out.size); clear ho4 hbk hb4)
      | fail)
    have HMO : Hid (MostG g F [] n 0 (seen back)) := by
      have hT : ∀ x y, 0 ≤ T x y := fun x y => (HBD.out x y).1
      have hbk : BackOk (n + 2) T n back := HBK.out
      have hm := seen_most hbk hT (by omega) (by omega) (last_zero (n := n) (b := n) (e := n + 1) hT (by omega) (by omega) HCT.out HGO.out (by omega))
      exact hm.grid HCT.out HGO.out (fun _ h => by cases h) (by omega) (by omega) (by omega) (by omega)
    have HF4 : Hid (∀ W, Below w4.heap.size w4 W → ∀ k, k < n → W.cell? ⟨fb, k, none⟩ = some (.int .i64 (back k))) := fun W hW k hk => (HO4.out.below hW HO4.out.lt).cell (by omega)
    have HX4 : Hid (∀ W, Below w4.heap.size w4 W → Below w.heap.size w W ∧ W.cell? ⟨w.heap.size, 0, none⟩ = some (.int .i64 n)) := fun W hW => by
      have h1 := HX.out W (HB4.out.trans (hW.mono HB4.out.size))
      rw [HGO.out.nodes] at h1
      exact ⟨h1.1, h1.2.1⟩
    have hfb : fb < w4.heap.size := HO4.out.lt
    have HB0 : Hid (Below w4.heap.size w4 w4) := Below.refl _ _
    have HN0 : Hid (OutB w4 w4.heap.size (.slice none 0 0) (seenL back 0)) := World.ownsRow_nil w4 w4.heap.size 4 1
    clear HB2 HB3 HR3 HO4 HBK
    go_loopw [9, 8] (fun vi vo wr => ∃ (k : Nat) (V : Value), k ≤ n ∧ vi = .int .i64 k ∧ V = vo ∧ Hid (OutB wr w4.heap.size V (seenL back k)) ∧ Hid (Below w4.heap.size w4 wr)) (fun vi _ _ => n - (intOf vi).toNat)
    case atStart => exact ⟨0, _, Nat.zero_le _, rfl, rfl, HN0.out, HB0.out⟩
    case round =>
      clear HN0 HB0
      obtain ⟨k, V, hk, rfl, rfl, HV, HB⟩ := hrel
      rename World => wr
      obtain ⟨_, p0⟩ := HX4.out wr HB.out
      by_cases hlt : k < n
      · have x0 := HF4.out wr HB.out k hlt
        have HLT := Lib.hid hlt
        have HST : Hid (seenL back (k + 1) = seenL back k ++ [seen back k]) := seenL_step back k
        have hln : (seenL back k).length ≤ 100 := by rw [seenL_len]; omega
        have HLN := Lib.hid hln
        have HSE : Hid (seen back k = decide (0 ≤ back k)) := rfl
        have hbs := HB.out.size
        clear hln
        generalize seenL back k = L at *
        generalize back k = bk at *
        have HA : Hid (OutB (wr.alloc (.cells #[.bool (decide (0 ≤ bk))] 4)) w4.heap.size V L ∧ (wr.alloc (.cells #[.bool (decide (0 ≤ bk))] 4)).cell? ⟨wr.heap.size, 0, none⟩ = some (.bool (decide (0 ≤ bk)))) := ⟨own_below HV.out ((Below.refl _ _).alloc (Nat.le_refl _) _) (fun b hb => (own_block_lt HV.out b hb).2), newcell wr _ 4 0⟩
        go_wp2_with (at_builtin; refine app_bool _ rfl _ _ rfl w4.heap.size V L rfl HA.out.1 wr.heap.size (decide (0 ≤ bk)) rfl HA.out.2 (by have := HLN.out; omega) (by simp; omega) ?_; intro v7 w7 hO7 hg7; have HO7 := Lib.hid hO7; have HB7 : Hid (Below w4.heap.size w4 w7) := (HB.out.alloc HB.out.size _).grown hg7 (by simp; omega) (fun b hb => (own_block_lt HV.out b hb).1); clear hO7 hg7)
        go_roundw
        case rel => exact ⟨k + 1, _, HLT.out, by go_num, rfl, by rw [HST.out, HSE.out]; exact HO7.out, HB7.out⟩
        case measure => simp [intOf]; have := HLT.out; omega
      · obtain rfl : k = n := by omega
        obtain ⟨Ao, co, rfl, hba⟩ := HV.out.reads
        have hba2 : BoolsA wr wr.heap.size Ao k (seen back) := by
          rw [seenL_len] at hba
          exact hba.congr fun i hi => seenL_at hi
        have HBA := Lib.hid hba2
        clear hba hba2
        simp only [seenL_len]
        go_wp2_with fail
        go_ret2
        exact ⟨(HX4.out _ HB.out).1, .inr ⟨HE.out, k, seen back, Ao, co, HGO.out, HMO.out, rfl, HBA.out⟩⟩
  · have hz' : (E != 0) = true := by simpa using hz
    have HZN : Hid (E ≠ 0) := hz
    clear hE hz
    go_enter Try.func34, Try.ntmps34
    go_wp2_with (go_at_call 56; refine (HCK.out _ (HX.out _ (Below.refl _ _)).1).mono ?_; rintro e w2 ⟨rfl, hb2⟩; have HB2 := Lib.hid hb2; clear hb2 p0 p1 p2 p3)
    go_ret2
    exact ⟨(HX.out _ HB2.out).1, .inl ⟨by rw [HE.out]; exact HZN.out, by rw [HE.out]; rfl⟩⟩
end Go.Proofs.Ytegclodchhcbaaa
