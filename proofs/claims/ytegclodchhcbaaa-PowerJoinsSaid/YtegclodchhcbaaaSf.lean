/- Walks: served, Served: the reference's. -/
import Derived.Test.YtegclodchhcbaaaSe
namespace Go.Proofs.Ytegclodchhcbaaa
open Go.RowKit

set_option maxRecDepth 100000 in
set_option maxHeartbeats 8000000 in
theorem rserved_any (g : MGrid) (A1 A2 A3 : Option Addr) (c1 c2 c3 : Nat) (A : Option Addr) (cap : Nat) (F : List MFault) (w : World) (h : GridA w w.heap.size g A1 A2 A3) (hf : FaultsA w w.heap.size A F) {n : Nat} (hg : GridOk g n) :
    Calls Try.prog 57 #[.agg (gridC g A1 A2 A3 c1 c2 c3), .slice A F.length cap] w fun e w' => ∃ v, e = .returned v ∧ BoolsO w' w.heap.size v g.users.length (servedB g F) ∧ Below w.heap.size w w' := by
  obtain ⟨w1, hw1⟩ : ∃ w1, w.alloc (.cells #[.int .i64 g.nodes, .slice A1 g.lines.length c1, .slice A2 g.srcs.length c2, .slice A3 g.users.length c3] 26) = w1 := ⟨_, rfl⟩
  have hb1 : Below w.heap.size w w1 := by rw [← hw1]; exact (Below.refl _ _).alloc (Nat.le_refl _) _
  have hs1 : w1.heap.size = w.heap.size + 1 := by rw [← hw1]; simp
  have hx1 : w1.heap[w.heap.size]? = some (.cells #[.int .i64 g.nodes, .slice A1 g.lines.length c1, .slice A2 g.srcs.length c2, .slice A3 g.users.length c3] 26 (0, 0)) := by rw [← hw1]; exact heap_alloc_new w _
  have HX : Hid (∀ W, Below w1.heap.size w1 W → Below w.heap.size w W ∧ W.cell? ⟨w.heap.size, 0, none⟩ = some (.int .i64 g.nodes) ∧ W.cell? ⟨w.heap.size, 1, none⟩ = some (.slice A1 g.lines.length c1) ∧ W.cell? ⟨w.heap.size, 2, none⟩ = some (.slice A2 g.srcs.length c2) ∧ W.cell? ⟨w.heap.size, 3, none⟩ = some (.slice A3 g.users.length c3)) := fun W hW => by
    have h1 := (hW.block w.heap.size (by omega)).trans hx1
    exact ⟨hb1.trans (hW.mono (by omega)), cell_of_row W _ 0 _ _ _ h1, cell_of_row W _ 1 _ _ _ h1, cell_of_row W _ 2 _ _ _ h1, cell_of_row W _ 3 _ _ _ h1⟩
  have HG : Hid (∀ W, Below w.heap.size w W → GridA W W.heap.size g A1 A2 A3 ∧ FaultsA W W.heap.size A F ∧ UsersA W w.heap.size A3 g.users) := fun W hW => ⟨(h.keep hW).more hW.size, (hf.keep hW).more hW.size, h.us.below hW (Nat.le_refl _)⟩
  obtain ⟨_, p0, p1, p2, p3⟩ := HX.out w1 (Below.refl _ _)
  have hnu := hg.nu
  have HGO := Lib.hid hg
  have HS1 := Lib.hid hs1
  have HB0 : Hid (Below w1.heap.size w1 w1) := Below.refl _ _
  have HCA : Hid (∀ (want : List Int) (Aw : Option Addr) (wc : Nat) W, Below w1.heap.size w1 W → IntsA W W.heap.size Aw want → WantOk g want ∧ want.length ≤ 100 → Calls Try.prog 66 #[.agg (gridC g A1 A2 A3 c1 c2 c3), .slice A F.length cap, .slice Aw want.length wc] W fun e w' => e = .returned (.bool (carB g F want)) ∧ Below W.heap.size W w') := fun want Aw wc W hW hI hO =>
    (rcarries_any g A1 A2 A3 c1 c2 c3 A cap F Aw wc want W (HG.out W (HX.out W hW).1).1 (HG.out W (HX.out W hW).1).2.1 hI hg hO.1 hO.2).mono fun _ _ hc => hc.car hg
  have HRK : Hid (∀ W, Below w1.heap.size w1 W → Calls Try.prog 27 #[.agg (gridC g A1 A2 A3 c1 c2 c3)] W fun e w' => ∃ v, e = .returned v ∧ OutI w' W.heap.size v (rankO g) ∧ Below W.heap.size W w') := fun W hW => ranked_any g A1 A2 A3 c1 c2 c3 W (HG.out W (HX.out W hW).1).1 (by omega)
  have HRL : Hid ((rankO g).length ≤ g.users.length) := rankO_len hg
  unfold gridC at HCA HRK ⊢
  clear h hf hb1 hx1 hg hs1
  go_enter Try.func57, Try.ntmps57
  go_wp2_with (first
    | (at_make; refine mk_bools _ rfl _ _ rfl g.users.length rfl rfl (by omega) ?_; intro w2 hO2 hb2; have HOB := Lib.hid hO2; have HB2 := Lib.hid hb2; clear hO2 hb2 p0 p1 p2 p3; obtain ⟨_, p0, p1, p2, p3⟩ := HX.out w2 HB2.out)
    | (go_at_call 27; refine (HRK.out _ HB2.out).mono ?_; rintro e w3 ⟨v3, rfl, hv3, hb3⟩; obtain ⟨Ao, co, rfl, _, _, hfo⟩ := hv3.far; have HFO := Lib.hid hfo; have HB3 := Lib.hid hb3; clear hb3 hv3 hfo p0 p1 p2 p3)
    | fail)
  have HOB3 : Hid (OwnF w3 w1.heap.size 4 g.users.length (fun _ => .bool false)) := HOB.out.below HB3.out HOB.out.lt
  have HDL : Hid (w1.heap.size < w2.heap.size) := HOB.out.lt
  have HBB : Hid (Below w1.heap.size w1 w3) := HB2.out.trans (HB3.out.mono HB2.out.size)
  have HPM : Hid (∀ k, k < (rankO g).length → ∀ (m m' : List Int) (u : Int), m.Perm (haveG g F (rankO g) k) → (rankO g).getD k 0 = u → m'.Perm (m ++ [u]) → carB g F m' = carB g F (haveG g F (rankO g) k ++ [u]) ∧ (WantOk g m' ∧ m'.length ≤ 100) ∧ m'.Perm (haveG g F (rankO g) k ++ [u])) := fun k hk m m' u hm hu hm' => by
    have hp : m'.Perm (haveG g F (rankO g) k ++ [u]) := hm'.trans (hm.append_right _)
    obtain ⟨h1, h2⟩ := have_ok HGO.out F hk
    rw [hu] at h1 h2
    exact ⟨carB_perm hp, ⟨fun x hx => h1 x (hp.mem_iff.1 hx), by rw [hp.length_eq]; exact h2⟩, hp⟩
  clear HOB HB2
  go_loopw [8, 6] (fun vi vh wr => ∃ (k : Nat) (m : List Int) (Aw : Option Addr) (wc : Nat), k ≤ (rankO g).length ∧ vi = .int .i64 k ∧ vh = .slice Aw m.length wc ∧ Hid (m.Perm (haveG g F (rankO g) k)) ∧ Hid (IntsA wr wr.heap.size Aw m) ∧ Hid (Below w1.heap.size w1 wr) ∧ Hid (w3.heap.size ≤ wr.heap.size ∧ ∀ b, w2.heap.size ≤ b → b < w3.heap.size → wr.heap[b]? = w3.heap[b]?) ∧ Hid (OwnF wr w1.heap.size 4 g.users.length (fun t => .bool (hasI (haveG g F (rankO g) k) t)))) (fun vi _ _ => (rankO g).length - (intOf vi).toNat)
  case atStart => exact ⟨0, [], none, 0, Nat.zero_le _, rfl, rfl, List.Perm.refl _, ⟨by simp, fun h => by simp at h⟩, HBB.out, ⟨Nat.le_refl _, fun _ _ _ => rfl⟩, HOB3.out⟩
  case round =>
    obtain ⟨k, m, Aw, wc, hk, rfl, rfl, HP, HI, HB, HK, HU⟩ := hrel
    rename World => wz
    clear HOB3 HBB
    have HRA : Hid (IntsA wz wz.heap.size Ao (rankO g)) := HFO.out wz HK.out.2
    by_cases hlt : k < (rankO g).length
    · obtain ⟨b9, o9, hA9, hb9, c0⟩ := HRA.out.at_ hlt
      subst hA9
      have HLT := Lib.hid hlt
      obtain ⟨u, hu, hul⟩ : ∃ u : Nat, (rankO g).getD k 0 = (u : Int) ∧ u < g.users.length := by
        have := (rankO_mem HGO.out _).1 (getD_mem_of hlt 0)
        exact ⟨((rankO g).getD k 0).toNat, by omega, by omega⟩
      have HRC : Hid (∀ W, Below wz.heap.size wz W → W.cell? ⟨b9, o9 + k, none⟩ = some (.int .i64 u)) := fun W hW => by
        rw [← hu, ← c0]
        exact bcell hW _ _ hb9
      rw [hu] at c0
      have HHV : Hid (haveG g F (rankO g) (k + 1) = if carB g F (haveG g F (rankO g) k ++ [(u : Int)]) = true then haveG g F (rankO g) k ++ [(u : Int)] else haveG g F (rankO g) k) := by
        show _ = _
        rw [← hu]
        rfl
      have HPK : Hid (∀ m' : List Int, m'.Perm (m ++ [(u : Int)]) → carB g F m' = carB g F (haveG g F (rankO g) k ++ [(u : Int)]) ∧ (WantOk g m' ∧ m'.length ≤ 100) ∧ m'.Perm (haveG g F (rankO g) k ++ [(u : Int)])) := fun m' hm' => HPM.out k hlt m m' u HP.out hu hm'
      have hml : m.length ≤ 100 := by
        have := (HPK.out _ (List.Perm.refl _)).2.1.2
        rw [List.length_append] at this
        simp at this
        omega
      have HRO := HRL.out
      clear hu
      generalize haveG g F (rankO g) k = hv at *
      have HAS := Lib.hid (ascending_any Aw wc m u wz HI.out (by omega))
      have hd2 : w1.heap.size < wz.heap.size := HU.out.lt
      obtain ⟨cb, hcb⟩ : ∃ cb, carB g F (hv ++ [(u : Int)]) = cb := ⟨_, rfl⟩
      have HCA2 : Hid (∀ (m' : List Int) (gq wc : Nat) W, Below w1.heap.size w1 W → PermA W gq (m.length + 1) (m ++ [(u : Int)]) m' → Calls Try.prog 66 #[.agg #[.int .i64 g.nodes, .slice A1 g.lines.length c1, .slice A2 g.srcs.length c2, .slice A3 g.users.length c3], .slice A F.length cap, .slice (some ⟨gq, 0, none⟩) (m.length + 1) wc] W fun e w' => e = .returned (.bool cb) ∧ Below W.heap.size W w') := fun m' gq wc W h1 h2 => by
        have hl := h2.len
        have hI : IntsA W W.heap.size (some ⟨gq, 0, none⟩) m' := OwnF.ints (by rw [hl]; exact h2.own) (by unfold maxLen; omega)
        have h9 := HCA.out m' _ wc W h1 hI (HPK.out m' h2.per).2.1
        rw [(HPK.out m' h2.per).1, hcb, hl] at h9
        exact h9
      rw [hcb] at HHV
      have HHU := Lib.hid hul
      clear hcb
      cases cb
      · have HHW : Hid (haveG g F (rankO g) (k + 1) = hv) := by show _ = _; rw [HHV.out]; rfl
        clear HCA HRK
        go_wp2_with (first
          | (go_at_call 91; refine HAS.out.mono ?_; rintro e w5 ⟨gq, wc5, m', rfl, hp5, hg5, hb5⟩; have HP5 := Lib.hid hp5; have HB5 := Lib.hid hb5; have HB5W : Hid (Below w1.heap.size w1 w5) := HB.out.trans (hb5.mono HB.out.size); clear hp5 hb5; obtain ⟨_, p0, p1, p2, p3⟩ := HX.out w5 HB5W.out)
          | (go_at_call 66; refine (HCA2.out m' gq wc5 w5 HB5W.out HP5.out).mono ?_; rintro e w6 ⟨rfl, hb6⟩; have HB6 := Lib.hid hb6; clear hb6 p0 p1 p2 p3)
          | fail)
        go_roundw
        case rel =>
          have hz8 : Below wz.heap.size wz w6 := HB5.out.trans (HB6.out.mono HB5.out.size)
          have hk9 := HK.out
          exact ⟨k + 1, m, Aw, wc, HLT.out, by go_num, rfl, by rw [HHW.out]; exact HP.out, (HI.out.below hz8 (Nat.le_refl _)).more hz8.size, HB5W.out.trans (HB6.out.mono HB5W.out.size), ⟨by have := hz8.size; omega, fun b h1 h2 => (hz8.block b (by omega)).trans (hk9.2 b h1 h2)⟩, by rw [HHW.out]; exact HU.out.below hz8 hd2⟩
        case measure => simp [intOf]; have := HLT.out; omega
      · have HHW : Hid (haveG g F (rankO g) (k + 1) = hv ++ [(u : Int)]) := by show _ = _; rw [HHV.out]; rfl
        have HUC : Hid (∀ W, Below wz.heap.size wz W → W.cell? ⟨w1.heap.size, u, none⟩ = some (.bool (hasI hv u)) ∧ W.frozen? ⟨w1.heap.size, u, none⟩ = false ∧ W.cell? ⟨b9, o9 + k, none⟩ = some (.int .i64 u)) := fun W hW => by
          have := HU.out.below hW hd2
          exact ⟨this.cell hul, this.frozen u, HRC.out W hW⟩
        clear HCA HRK
        go_wp2_with (first
          | (go_at_call 91; refine HAS.out.mono ?_; rintro e w5 ⟨gq, wc5, m', rfl, hp5, hg5, hb5⟩; have HP5 := Lib.hid hp5; have HB5 := Lib.hid hb5; have HB5W : Hid (Below w1.heap.size w1 w5) := HB.out.trans (hb5.mono HB.out.size); clear hp5 hb5; obtain ⟨_, p0, p1, p2, p3⟩ := HX.out w5 HB5W.out)
          | (go_at_call 66; refine (HCA2.out m' gq wc5 w5 HB5W.out HP5.out).mono ?_; rintro e w6 ⟨rfl, hb6⟩; have HB6 := Lib.hid hb6; clear hb6 p0 p1 p2 p3; clear c0; obtain ⟨z0, z1, c0⟩ := HUC.out w6 (HB5.out.trans (HB6.out.mono HB5.out.size)))
          | fail)
        go_roundw
        case rel =>
          have hz8 : Below wz.heap.size wz w6 := HB5.out.trans (HB6.out.mono HB5.out.size)
          have hk9 := HK.out
          have hd9 := HDL.out
          refine ⟨k + 1, m', some ⟨gq, 0, none⟩, wc5, HLT.out, by go_num, by rw [HP5.out.len], ?_, ?_, ?_, ⟨?_, fun b h1 h2 => ?_⟩, ?_⟩
          · rw [HHW.out]
            exact (HPK.out m' HP5.out.per).2.2
          · refine OwnF.ints (T := 3) ?_ (by have := (HPK.out m' HP5.out.per).2.1.2; unfold maxLen; omega)
            rw [HP5.out.len]
            exact (HP5.out.own.below HB6.out HP5.out.own.lt).far (show gq ≠ w1.heap.size by omega) _
          · exact (HB5W.out.trans (HB6.out.mono HB5W.out.size)).setCell (p := ⟨w1.heap.size, u, none⟩) (Nat.le_refl _) _
          · have := hz8.size
            simp
            omega
          · rw [Below.heap_setCell w6 ⟨w1.heap.size, u, none⟩ _ b (show b ≠ w1.heap.size by omega)]
            exact (hz8.block b (by omega)).trans (hk9.2 b h1 h2)
          · rw [HHW.out]
            refine ((HU.out.below hz8 hd2).set u _).congr fun t _ => ?_
            rw [hasI_app]
            by_cases e : t = u
            · simp [e]
            · simp [e, show ¬ ((t : Int) = u) by omega]
        case measure => simp [intOf]; have := HLT.out; omega
    · obtain rfl : k = (rankO g).length := by omega
      have HFIN : Hid (OwnF wz w1.heap.size 4 g.users.length (fun t => .bool (servedB g F t))) := HU
      go_wp2_with fail
      go_ret
      exact ⟨_, rfl, ⟨_, rfl, by have := HS1.out; omega, HFIN.out⟩, (HX.out _ HB.out).1⟩
set_option maxRecDepth 100000 in
set_option maxHeartbeats 8000000 in
theorem rServed_any (g : MGrid) (A1 A2 A3 : Option Addr) (c1 c2 c3 : Nat) (A : Option Addr) (cap : Nat) (F : List MFault) (w : World) (h : GridA w w.heap.size g A1 A2 A3) (hf : FaultsA w w.heap.size A F) :
    Calls Try.prog 20 #[.agg (gridC g A1 A2 A3 c1 c2 c3), .slice A F.length cap] w (ServedP g F w) := by
  obtain ⟨w1, hw1⟩ : ∃ w1, w.alloc (.cells #[.int .i64 g.nodes, .slice A1 g.lines.length c1, .slice A2 g.srcs.length c2, .slice A3 g.users.length c3] 26) = w1 := ⟨_, rfl⟩
  have hb1 : Below w.heap.size w w1 := by rw [← hw1]; exact (Below.refl _ _).alloc (Nat.le_refl _) _
  have hs1 : w1.heap.size = w.heap.size + 1 := by rw [← hw1]; simp
  have hx1 : w1.heap[w.heap.size]? = some (.cells #[.int .i64 g.nodes, .slice A1 g.lines.length c1, .slice A2 g.srcs.length c2, .slice A3 g.users.length c3] 26 (0, 0)) := by rw [← hw1]; exact heap_alloc_new w _
  have HX : Hid (∀ W, Below w1.heap.size w1 W → Below w.heap.size w W ∧ W.cell? ⟨w.heap.size, 0, none⟩ = some (.int .i64 g.nodes) ∧ W.cell? ⟨w.heap.size, 1, none⟩ = some (.slice A1 g.lines.length c1) ∧ W.cell? ⟨w.heap.size, 2, none⟩ = some (.slice A2 g.srcs.length c2) ∧ W.cell? ⟨w.heap.size, 3, none⟩ = some (.slice A3 g.users.length c3)) := fun W hW => by
    have h1 := (hW.block w.heap.size (by omega)).trans hx1
    exact ⟨hb1.trans (hW.mono (by omega)), cell_of_row W _ 0 _ _ _ h1, cell_of_row W _ 1 _ _ _ h1, cell_of_row W _ 2 _ _ _ h1, cell_of_row W _ 3 _ _ _ h1⟩
  have HG : Hid (∀ W, Below w.heap.size w W → GridA W W.heap.size g A1 A2 A3 ∧ FaultsA W W.heap.size A F) := fun W hW => ⟨(h.keep hW).more hW.size, (hf.keep hW).more hW.size⟩
  obtain ⟨_, p0, p1, p2, p3⟩ := HX.out w1 (Below.refl _ _)
  obtain ⟨E, hE⟩ : ∃ E, checkGF g F = E := ⟨_, rfl⟩
  have HE := Lib.hid hE
  have HCK := Lib.hid (fun W hW => rcheckGF_any g A1 A2 A3 c1 c2 c3 A cap F W (HG.out W hW).1 (HG.out W hW).2 hE)
  unfold gridC at HCK ⊢
  clear h hf hb1 hx1
  by_cases hz : E = 0
  · subst hz
    obtain ⟨n, hgo⟩ := checkG_ok (checkGF_ok hE).1
    have HSV := Lib.hid (fun W hW => rserved_any g A1 A2 A3 c1 c2 c3 A cap F W (HG.out W hW).1 (HG.out W hW).2 hgo)
    unfold gridC at HSV
    clear hE hgo
    go_enter Try.func20, Try.ntmps20
    go_wp2_with (first
      | (go_at_call 56; refine (HCK.out _ (HX.out _ (Below.refl _ _)).1).mono ?_; rintro e w2 ⟨rfl, hb2⟩; have HB2 := Lib.hid hb2; clear hb2 p0 p1 p2 p3; obtain ⟨_, p0, p1, p2, p3⟩ := HX.out w2 HB2.out)
      | (go_at_call 57; refine (HSV.out _ (HX.out _ HB2.out).1).mono ?_; rintro e w4 ⟨v, rfl, hv4, hb4⟩; have HV4 := Lib.hid hv4; have HB4 : Hid (Below w1.heap.size w1 w4) := HB2.out.trans (hb4.mono HB2.out.size); clear hb4 hv4 p0 p1 p2 p3)
      | fail)
    go_ret2
    refine ⟨(HX.out _ HB4.out).1, .inr ⟨HE.out, v, rfl, ?_⟩⟩
    obtain ⟨ob, e1, e2, e3⟩ := HV4.out
    exact ⟨ob, e1, by have := (HX.out _ HB2.out).1.size; omega, e3⟩
  · have hz' : (E != 0) = true := by simpa using hz
    have HZN : Hid (E ≠ 0) := hz
    clear hE hz
    go_enter Try.func20, Try.ntmps20
    go_wp2_with (go_at_call 56; refine (HCK.out _ (HX.out _ (Below.refl _ _)).1).mono ?_; rintro e w2 ⟨rfl, hb2⟩; have HB2 := Lib.hid hb2; clear hb2 p0 p1 p2 p3)
    go_ret2
    exact ⟨(HX.out _ HB2.out).1, .inl ⟨by rw [HE.out]; exact HZN.out, by rw [HE.out]; rfl⟩⟩
end Go.Proofs.Ytegclodchhcbaaa
