/- Walks: served, Served: ours. -/
import Derived.Test.YtegclodchhcbaaaSb
import Derived.Test.YtegclodchhcbaaaFc
namespace Go.Proofs.Ytegclodchhcbaaa
open Go.RowKit

theorem CarP.car {g : MGrid} {F : List MFault} {want : List Int} {n : Nat} {w w' : World} {e : Ending} (h : CarP g F want n w e w') (hg : GridOk g n) : e = .returned (.bool (carB g F want)) ∧ Below w.heap.size w w' := by
  obtain ⟨hb, sum, R, he, hm⟩ := h
  refine ⟨?_, hb⟩
  have h1 : needS g want want.length = powS g want := sumN_list (fun x => (userAt g x).power) want
  have h2 := hm.car hg
  rw [he, h1]
  congr 2
  rw [Bool.eq_iff_iff, carB_iff, ← h2]
  exact decide_eq_true_iff
noncomputable def servedB (g : MGrid) (F : List MFault) (t : Nat) : Bool := hasI (servedG g F) t
/-- bools in a row of the call's own -/
def BoolsO (w : World) (B : Nat) (v : Value) (n : Nat) (f : Nat → Bool) : Prop := ∃ ob, v = .slice (some ⟨ob, 0, none⟩) n n ∧ B ≤ ob ∧ OwnF w ob 4 n (fun t => .bool (f t))
theorem info_bool : (Try.prog.info? 4).map (fun i => (i.zero, i.size, i.bytes)) = some (some (.bool false), 1, 1) := by kernel_rfl
theorem under_bools : Try.prog.underlying 33 = some (.slice 4) := by kernel_rfl
section
variable {ops : Array Oper} {rest : List Oper} {o : Oper} {a : Act} {Q : Exit → Act → World → Prop}
theorem mk_bools (w : World) (hg : o.guard = none) (l c : Operand) (hop : o.op = .makeSlice 33 l c) (n : Nat) (hl : a.eval l = .int .i64 (n : Int)) (hc : a.eval c = .int .i64 (n : Int)) (hn : n ≤ 1000000)
    (hK : ∀ w', OwnF w' w.heap.size 4 n (fun _ => .bool false) → Below w.heap.size w w' → wpList Try.prog ops Q rest (a.put o.dst (.slice (some ⟨w.heap.size, 0, none⟩) n n)) w') : wpList Try.prog ops Q (o :: rest) a w := by
  obtain ⟨i0, hi, hz0, hz1, hz2⟩ := info_parts info_bool
  refine wpList_make_full w hg l c 33 hop w.heap.size 4 i0 (.bool false) 1 under_bools hi hz0 hz1 .i64 .i64 _ _ n hl hc rfl rfl (by rw [hz2]; omega) (by unfold maxLen; omega) (Nat.le_refl _) (fun w' h1 h2 => hK w' ?_ ?_)
  · exact (OwnF.of_row h1 rfl).congr fun j hj => made_get hj
  · exact (Below.refl _ _).grown h2 (Nat.le_refl _) (fun k hk => by cases hk)
end
theorem hasI_app (l : List Int) (x y : Int) : hasI (l ++ [x]) y = (hasI l y || decide (y = x)) := by
  unfold hasI
  rw [Bool.eq_iff_iff]
  simp
theorem OutI.far {w : World} {base : Nat} {v : Value} {l : List Int} (h : OutI w base v l) : ∃ A cap, v = .slice A l.length cap ∧ l.length ≤ cap ∧ IntsA w w.heap.size A l ∧ ∀ W, (∀ b, base ≤ b → b < w.heap.size → W.heap[b]? = w.heap[b]?) → IntsA W W.heap.size A l := by
  obtain ⟨A, cap, hv, hc, hi⟩ := h.reads
  refine ⟨A, cap, hv, hc, hi, fun W hW => ?_⟩
  have h2 : OutI W base v l := by
    have hlt := own_block_lt h
    obtain ⟨h1, h2⟩ := h
    refine ⟨h1, ?_⟩
    rcases h2 with h2 | ⟨g, cap, cur, hv, hg, hh, r⟩
    · exact .inl h2
    · exact .inr ⟨g, cap, cur, hv, hg, by rw [hW g hg (hlt g (by rw [hv]; rfl)).2]; exact hh, r⟩
  obtain ⟨A', cap', hv', _, hi'⟩ := h2.reads
  rw [hv] at hv'
  injection hv' with e1 e2 e3
  rw [e1]
  exact hi'
theorem have_ok {g : MGrid} {n : Nat} (hg : GridOk g n) (F : List MFault) {k : Nat} (hk : k < (rankO g).length) : WantOk g (haveG g F (rankO g) k ++ [(rankO g).getD k 0]) ∧ (haveG g F (rankO g) k ++ [(rankO g).getD k 0]).length ≤ 100 := by
  have hs := haveG_sub (g := g) (F := F) (O := rankO g) (k := k) (by omega)
  have hl := hs.length_le
  rw [List.length_take] at hl
  have h2 := rankO_len hg
  have h3 := hg.nu
  refine ⟨fun x hx => ?_, by rw [List.length_append]; simp only [List.length_cons, List.length_nil]; omega⟩
  rw [← rankO_mem hg]
  rcases List.mem_append.1 hx with h | h
  · exact List.mem_of_mem_take (hs.subset h)
  · rw [List.mem_singleton] at h
    rw [h]
    exact getD_mem_of hk 0
set_option maxRecDepth 100000 in
set_option maxHeartbeats 8000000 in
theorem served_any (g : MGrid) (A1 A2 A3 : Option Addr) (c1 c2 c3 : Nat) (A : Option Addr) (cap : Nat) (F : List MFault) (w : World) (h : GridA w w.heap.size g A1 A2 A3) (hf : FaultsA w w.heap.size A F) {n : Nat} (hg : GridOk g n) :
    Calls Try.prog 55 #[.agg (gridC g A1 A2 A3 c1 c2 c3), .slice A F.length cap] w fun e w' => ∃ v, e = .returned v ∧ BoolsO w' w.heap.size v g.users.length (servedB g F) ∧ Below w.heap.size w w' := by
  obtain ⟨w1, hw1⟩ : ∃ w1, w.alloc (.cells #[.int .i64 g.nodes, .slice A1 g.lines.length c1, .slice A2 g.srcs.length c2, .slice A3 g.users.length c3] 26) = w1 := ⟨_, rfl⟩
  have hb1 : Below w.heap.size w w1 := by rw [← hw1]; exact (Below.refl _ _).alloc (Nat.le_refl _) _
  have hs1 : w1.heap.size = w.heap.size + 1 := by rw [← hw1]; simp
  have hx1 : w1.heap[w.heap.size]? = some (.cells #[.int .i64 g.nodes, .slice A1 g.lines.length c1, .slice A2 g.srcs.length c2, .slice A3 g.users.length c3] 26 (0, 0)) := by rw [← hw1]; exact heap_alloc_new w _
  have HX : Hid (∀ W, Below w1.heap.size w1 W → Below w.heap.size w W ∧ W.cell? ⟨w.heap.size, 0, none⟩ = some (.int .i64 g.nodes) ∧ W.cell? ⟨w.heap.size, 1, none⟩ = some (.slice A1 g.lines.length c1) ∧ W.cell? ⟨w.heap.size, 2, none⟩ = some (.slice A2 g.srcs.length c2) ∧ W.cell? ⟨w.heap.size, 3, none⟩ = some (.slice A3 g.users.length c3)) := fun W hW => by
    have h1 := (hW.block w.heap.size (by omega)).trans hx1
    exact ⟨hb1.trans (hW.mono (by omega)), cell_of_row W _ 0 _ _ _ h1, cell_of_row W _ 1 _ _ _ h1, cell_of_row W _ 2 _ _ _ h1, cell_of_row W _ 3 _ _ _ h1⟩
  have HG : Hid (∀ W, Below w.heap.size w W → GridA W W.heap.size g A1 A2 A3 ∧ FaultsA W W.heap.size A F ∧ UsersA W w.heap.size A3 g.users) := fun W hW => ⟨(h.keep hW).more hW.size, (hf.keep hW).more hW.size, h.us.below hW (Nat.le_refl _)⟩
  obtain ⟨_, p0, p1, p2, p3⟩ := HX.out w1 (Below.refl _ _)
  have hnu := hg.nu
  have HGO := Lib.hid hg
  have HS1 := Lib.hid hs1
  have HCA : Hid (∀ (want : List Int) (Aw : Option Addr) (wc : Nat) W, Below w1.heap.size w1 W → IntsA W W.heap.size Aw want → WantOk g want ∧ want.length ≤ 100 → Calls Try.prog 65 #[.agg (gridC g A1 A2 A3 c1 c2 c3), .slice A F.length cap, .slice Aw want.length wc] W fun e w' => e = .returned (.bool (carB g F want)) ∧ Below W.heap.size W w') := fun want Aw wc W hW hI hO =>
    (carries_any g A1 A2 A3 c1 c2 c3 A cap F Aw wc want W (HG.out W (HX.out W hW).1).1 (HG.out W (HX.out W hW).1).2.1 hI hg hO.1 hO.2).mono fun _ _ hc => hc.car hg
  have HSO : Hid (∀ W W2, Below w1.heap.size w1 W → w1.heap.size < W.heap.size → W2 = W → OwnF W w1.heap.size 3 g.users.length (fun t => .int .i64 (t : Int)) → Calls Try.prog 87 #[.slice (some ⟨w1.heap.size, 0, none⟩) g.users.length g.users.length, .func (.func 88) #[] #[.pointer (some ⟨w.heap.size, 0, none⟩)]] W2 fun e w' => e = .returned (.tuple #[]) ∧ RankedA g w1.heap.size W w') := fun W W2 hW hs he hO => by
    subst he
    obtain ⟨hb, _, _, _, q3⟩ := HX.out W2 hW
    exact sort_any g hg w.heap.size w1.heap.size A3 c3 W2 q3 ((HG.out W2 hb).2.2.more (by omega)) (by omega) hs hO g.users.length
  unfold gridC at HCA ⊢
  clear h hf hb1 hx1 hg hs1
  go_enter Try.func55, Try.ntmps55
  go_wp2_with (at_make; refine mk_ints _ rfl _ _ rfl g.users.length rfl rfl (by omega) ?_; intro w2 hO2 hb2; have HO2 := Lib.hid hO2; have HB2 := Lib.hid hb2; clear hO2 hb2)
  clear p0 p1 p2 p3
  go_loopw [18] (fun vi wr => ∃ k : Nat, k ≤ g.users.length ∧ vi = .int .i64 k ∧ Hid (Below w1.heap.size w1 wr) ∧ Hid (OwnF wr w1.heap.size 3 g.users.length (fun t => .int .i64 (if t < k then (t : Int) else 0)))) (fun vi _ => g.users.length - (intOf vi).toNat)
  case atStart => exact ⟨0, Nat.zero_le _, rfl, HB2.out, HO2.out⟩
  case round =>
    obtain ⟨k, hk, rfl, HB, HO⟩ := hrel
    rename World => wr
    by_cases hlt : k < g.users.length
    · have HLT := Lib.hid hlt
      have c0 := HO.out.cell hlt
      have f0 := HO.out.frozen k
      have HO3 : Hid (OwnF (wr.setCell ⟨w1.heap.size, k, none⟩ (.int .i64 k)) w1.heap.size 3 g.users.length (fun t => .int .i64 (if t < k + 1 then (t : Int) else 0))) := (HO.out.set k _).congr fun t _ => by
        by_cases e : t = k
        · subst e; simp
        · simp only [e, if_false]
          by_cases e2 : t < k
          · rw [if_pos e2, if_pos (by omega)]
          · rw [if_neg e2, if_neg (by omega)]
      have HB3 : Hid (Below w1.heap.size w1 (wr.setCell ⟨w1.heap.size, k, none⟩ (.int .i64 k))) := HB.out.setCell (p := ⟨w1.heap.size, k, none⟩) (Nat.le_refl _) _
      go_wp2_with fail
      go_roundw
      case rel => exact ⟨k + 1, HLT.out, by go_num, HB3.out, HO3⟩
      case measure => simp [intOf]; have := HLT.out; omega
    · obtain rfl : k = g.users.length := by omega
      obtain ⟨_, p0, p1, p2, p3⟩ := HX.out wr HB.out
      have HO4 : Hid (OwnF wr w1.heap.size 3 g.users.length (fun t => .int .i64 (t : Int))) := HO.out.congr fun t ht => by rw [if_pos ht]
      clear HO HO2 HB2
      go_wp2_with (first
        | (go_at_call 87; refine (HSO.out wr _ HB.out HO4.out.lt rfl HO4.out).mono ?_; rintro e w3 ⟨rfl, hr3⟩; have HR3 := Lib.hid hr3; have HB3 : Hid (Below w1.heap.size w1 w3) := HB.out.trans (hr3.2.2.below (Nat.le_refl _) HB.out.size); clear hr3 p0 p1 p2 p3; obtain ⟨_, p0, p1, p2, p3⟩ := HX.out w3 HB3.out)
        | (at_make; refine mk_bools _ rfl _ _ rfl g.users.length rfl rfl (by omega) ?_; intro w4 hO4 hb4; have HOB := Lib.hid hO4; have HB4 := Lib.hid hb4; clear hO4 hb4)
        | fail)
      have HOR : Hid (OwnF w4 w1.heap.size 3 g.users.length (fun t => .int .i64 ((rankO g).getD t 0))) := HR3.out.1.below HB4.out HR3.out.1.lt
      have HRL : Hid ((rankO g).length = g.users.length) := HR3.out.2.1
      have HB5 : Hid (Below w1.heap.size w1 w4) := HB3.out.trans (HB4.out.mono HB3.out.size)
      have HDL : Hid (w1.heap.size < w3.heap.size) := HR3.out.1.lt
      clear p0 p1 p2 p3 HR3 HO4 HSO HB
      go_loopw [35, 8] (fun vi vh wr => ∃ (k : Nat) (Aw : Option Addr) (wc : Nat), k ≤ g.users.length ∧ vi = .int .i64 k ∧ vh = .slice Aw (haveG g F (rankO g) k).length wc ∧ Hid (IntsA wr wr.heap.size Aw (haveG g F (rankO g) k)) ∧ Hid (Below w1.heap.size w1 wr) ∧ Hid (OwnF wr w1.heap.size 3 g.users.length (fun t => .int .i64 ((rankO g).getD t 0))) ∧ Hid (OwnF wr w3.heap.size 4 g.users.length (fun t => .bool (hasI (haveG g F (rankO g) k) t)))) (fun vi _ _ => g.users.length - (intOf vi).toNat)
      case atStart => exact ⟨0, none, 0, Nat.zero_le _, rfl, rfl, ⟨by simp [haveG], fun h => by simp [haveG] at h⟩, HB5.out, HOR.out, HOB.out⟩
      case round =>
        obtain ⟨k, Aw, wc, hk, rfl, rfl, HI, HB, HO, HU⟩ := hrel
        rename World => wz
        clear HOR HOB HB5
        by_cases hlt : k < g.users.length
        · have HLT := Lib.hid hlt
          have c0 := HO.out.cell hlt
          have hkr : k < (rankO g).length := by rw [HRL.out]; exact hlt
          have HWO := Lib.hid (have_ok HGO.out F hkr)
          obtain ⟨u, hu, hul⟩ : ∃ u : Nat, (rankO g).getD k 0 = (u : Int) ∧ u < g.users.length := by
            have := (rankO_mem HGO.out _).1 (getD_mem_of hkr 0)
            exact ⟨((rankO g).getD k 0).toNat, by omega, by omega⟩
          rw [hu] at c0 HWO
          have HHV : Hid (haveG g F (rankO g) (k + 1) = if carB g F (haveG g F (rankO g) k ++ [(u : Int)]) = true then haveG g F (rankO g) k ++ [(u : Int)] else haveG g F (rankO g) k) := by
            show _ = _
            rw [← hu]
            rfl
          clear hu hkr
          generalize haveG g F (rankO g) k = hv at *
          have hvl : hv.length ≤ 100 := by have := HWO.out.2; rw [List.length_append] at this; simp at this; omega
          have HCL := Lib.hid (clone_ints Aw wc hv wz HI.out (by omega))
          have HZS : Hid (Below w1.heap.size w1 wz) := HB
          have hd1 : w1.heap.size < wz.heap.size := HO.out.lt
          have hd2 : w3.heap.size < wz.heap.size := HU.out.lt
          have ARM5 : Hid (∀ w5 v5, OutI w5 wz.heap.size v5 hv → Below wz.heap.size wz w5 → OutI (w5.alloc (.cells #[.int .i64 u] 3)) wz.heap.size v5 hv ∧ (w5.alloc (.cells #[.int .i64 u] 3)).cell? ⟨w5.heap.size, 0, none⟩ = some (.int .i64 u) ∧ wz.heap.size ≤ (w5.alloc (.cells #[.int .i64 u] 3)).heap.size) := fun w5 v5 h5 hb5 => ⟨own_below h5 ((Below.refl _ _).alloc (Nat.le_refl _) _) (fun k hk => (own_block_lt h5 k hk).2), newcell w5 _ 3 0, by have := hb5.size; simp; omega⟩
          have ARM7 : Hid (∀ w5 v5 w7, OutI w5 wz.heap.size v5 hv → Below wz.heap.size wz w5 → (w5.alloc (.cells #[.int .i64 u] 3)).grownBy w7 v5.ownBlock → Below wz.heap.size wz w7 ∧ Below w1.heap.size w1 w7) := fun w5 v5 w7 h5 hb5 hg7 => by
            have h1 : Below wz.heap.size wz w7 := (hb5.alloc hb5.size _).grown hg7 (by have := hb5.size; simp; omega) (fun k hk => (own_block_lt h5 k hk).1)
            exact ⟨h1, HB.out.trans (h1.mono (by omega))⟩
          obtain ⟨cb, hcb⟩ : ∃ cb, carB g F (hv ++ [(u : Int)]) = cb := ⟨_, rfl⟩
          have HCA2 : Hid (∀ (Aw : Option Addr) (wc : Nat) W, Below w1.heap.size w1 W → IntsA W W.heap.size Aw (hv ++ [(u : Int)]) → Calls Try.prog 65 #[.agg #[.int .i64 g.nodes, .slice A1 g.lines.length c1, .slice A2 g.srcs.length c2, .slice A3 g.users.length c3], .slice A F.length cap, .slice Aw (hv.length + 1) wc] W fun e w' => e = .returned (.bool cb) ∧ Below W.heap.size W w') := fun Aw wc W h1 h2 => by
            have h9 := HCA.out _ Aw wc W h1 h2 HWO.out
            rw [hcb, show (hv ++ [(u : Int)]).length = hv.length + 1 by simp] at h9
            exact h9
          rw [hcb] at HHV
          have HHU := Lib.hid hul
          have HCB := Lib.hid hcb
          clear hcb
          cases cb
          · have HHW : Hid (haveG g F (rankO g) (k + 1) = hv) := by show _ = _; rw [HHV.out]; rfl
            go_wp2_with (first
              | (go_at_call 90; refine HCL.out.mono ?_; rintro e w5 ⟨v5, rfl, hO5, hb5⟩; have HO5 := Lib.hid hO5; have HB5 := Lib.hid hb5; clear hO5 hb5)
              | (at_builtin; refine app_int _ rfl _ _ rfl wz.heap.size v5 hv rfl (ARM5.out w5 v5 HO5.out HB5.out).1 w5.heap.size u rfl (ARM5.out w5 v5 HO5.out HB5.out).2.1 (by omega) (ARM5.out w5 v5 HO5.out HB5.out).2.2 ?_; intro v7 w7 hO7 hg7; have HB7 := Lib.hid (ARM7.out w5 v5 w7 HO5.out HB5.out hg7); obtain ⟨A7, c7, rfl, _, hI7, hF7⟩ := hO7.far; have HI7 := Lib.hid hI7; have HF7 := Lib.hid hF7; clear hg7 hO7 hI7 hF7; obtain ⟨_, p0, p1, p2, p3⟩ := HX.out w7 HB7.out.2)
              | (go_at_call 65; refine (HCA2.out A7 c7 w7 HB7.out.2 HI7.out).mono ?_; rintro e w8 ⟨rfl, hb8⟩; have HB8 := Lib.hid hb8; clear hb8 p0 p1 p2 p3)
              | fail)
            go_roundw
            case rel =>
              have hz8 : Below wz.heap.size wz w8 := HB7.out.1.trans (HB8.out.mono HB7.out.1.size)
              exact ⟨k + 1, Aw, wc, HLT.out, by go_num, by rw [HHW.out], by rw [HHW.out]; exact (HI.out.below hz8 (Nat.le_refl _)).more hz8.size, HB7.out.2.trans (HB8.out.mono HB7.out.2.size), HO.out.below hz8 hd1, by rw [HHW.out]; exact HU.out.below hz8 hd2⟩
            case measure => simp [intOf]; have := HLT.out; omega
          · have HHW : Hid (haveG g F (rankO g) (k + 1) = hv ++ [(u : Int)]) := by show _ = _; rw [HHV.out]; rfl
            have HUC : Hid (∀ W, Below wz.heap.size wz W → W.cell? ⟨w3.heap.size, u, none⟩ = some (.bool (hasI hv u)) ∧ W.frozen? ⟨w3.heap.size, u, none⟩ = false) := fun W hW => by
              have := HU.out.below hW hd2
              exact ⟨this.cell hul, this.frozen u⟩
            go_wp2_with (first
              | (go_at_call 90; refine HCL.out.mono ?_; rintro e w5 ⟨v5, rfl, hO5, hb5⟩; have HO5 := Lib.hid hO5; have HB5 := Lib.hid hb5; clear hO5 hb5)
              | (at_builtin; refine app_int _ rfl _ _ rfl wz.heap.size v5 hv rfl (ARM5.out w5 v5 HO5.out HB5.out).1 w5.heap.size u rfl (ARM5.out w5 v5 HO5.out HB5.out).2.1 (by omega) (ARM5.out w5 v5 HO5.out HB5.out).2.2 ?_; intro v7 w7 hO7 hg7; have HB7 := Lib.hid (ARM7.out w5 v5 w7 HO5.out HB5.out hg7); obtain ⟨A7, c7, rfl, _, hI7, hF7⟩ := hO7.far; have HI7 := Lib.hid hI7; have HF7 := Lib.hid hF7; clear hg7 hO7 hI7 hF7; obtain ⟨_, p0, p1, p2, p3⟩ := HX.out w7 HB7.out.2)
              | (go_at_call 65; refine (HCA2.out A7 c7 w7 HB7.out.2 HI7.out).mono ?_; rintro e w8 ⟨rfl, hb8⟩; have HB8 := Lib.hid hb8; clear hb8 p0 p1 p2 p3; obtain ⟨z0, z1⟩ := HUC.out w8 (HB7.out.1.trans (HB8.out.mono HB7.out.1.size)))
              | fail)
            go_roundw
            case rel =>
              have hz8 : Below wz.heap.size wz w8 := HB7.out.1.trans (HB8.out.mono HB7.out.1.size)
              refine ⟨k + 1, A7, c7, HLT.out, by go_num, by rw [HHW.out]; simp, ?_, ?_, ?_, ?_⟩
              · rw [HHW.out]
                refine HF7.out _ fun b hb1 hb2 => ?_
                rw [Below.heap_setCell w8 ⟨w3.heap.size, u, none⟩ _ b (show b ≠ w3.heap.size by omega)]
                exact HB8.out.block b hb2
              · exact (HB7.out.2.trans (HB8.out.mono HB7.out.2.size)).setCell (p := ⟨w3.heap.size, u, none⟩) (Nat.le_of_lt HDL.out) _
              · exact (HO.out.below hz8 hd1).far (show w1.heap.size ≠ w3.heap.size by have := HDL.out; omega) _
              · rw [HHW.out]
                refine ((HU.out.below hz8 hd2).set u _).congr fun t _ => ?_
                rw [hasI_app]
                by_cases e : t = u
                · simp [e]
                · simp [e, show ¬ ((t : Int) = u) by omega]
            case measure => simp [intOf]; have := HLT.out; omega
        · obtain rfl : k = g.users.length := by omega
          have HFIN : Hid (OwnF wz w3.heap.size 4 g.users.length (fun t => .bool (servedB g F t))) := by
            show OwnF _ _ _ _ _
            unfold servedB servedG
            rw [HRL.out]
            exact HU.out
          go_wp2_with fail
          go_ret
          exact ⟨_, rfl, ⟨_, rfl, by have := HB3.out.size; have := HS1.out; omega, HFIN.out⟩, (HX.out _ HB.out).1⟩
def ServedP (g : MGrid) (F : List MFault) (w : World) (e : Ending) (w' : World) : Prop :=
  Below w.heap.size w w' ∧ ((checkGF g F ≠ 0 ∧ e = .returned (.tuple #[.slice none 0 0, .int .i64 (checkGF g F)])) ∨ (checkGF g F = 0 ∧ ∃ v, e = .returned (.tuple #[v, .int .i64 0]) ∧ BoolsO w' w.heap.size v g.users.length (servedB g F)))
set_option maxRecDepth 100000 in
set_option maxHeartbeats 8000000 in
theorem Served_any (g : MGrid) (A1 A2 A3 : Option Addr) (c1 c2 c3 : Nat) (A : Option Addr) (cap : Nat) (F : List MFault) (w : World) (h : GridA w w.heap.size g A1 A2 A3) (hf : FaultsA w w.heap.size A F) (hcap : F.length ≤ cap) :
    Calls Try.prog 17 #[.agg (gridC g A1 A2 A3 c1 c2 c3), .slice A F.length cap] w (ServedP g F w) := by
  obtain ⟨w1, hw1⟩ : ∃ w1, w.alloc (.cells #[.int .i64 g.nodes, .slice A1 g.lines.length c1, .slice A2 g.srcs.length c2, .slice A3 g.users.length c3] 26) = w1 := ⟨_, rfl⟩
  have hb1 : Below w.heap.size w w1 := by rw [← hw1]; exact (Below.refl _ _).alloc (Nat.le_refl _) _
  have hs1 : w1.heap.size = w.heap.size + 1 := by rw [← hw1]; simp
  have hx1 : w1.heap[w.heap.size]? = some (.cells #[.int .i64 g.nodes, .slice A1 g.lines.length c1, .slice A2 g.srcs.length c2, .slice A3 g.users.length c3] 26 (0, 0)) := by rw [← hw1]; exact heap_alloc_new w _
  have HX : Hid (∀ W, Below w1.heap.size w1 W → Below w.heap.size w W ∧ W.cell? ⟨w.heap.size, 0, none⟩ = some (.int .i64 g.nodes) ∧ W.cell? ⟨w.heap.size, 1, none⟩ = some (.slice A1 g.lines.length c1) ∧ W.cell? ⟨w.heap.size, 2, none⟩ = some (.slice A2 g.srcs.length c2) ∧ W.cell? ⟨w.heap.size, 3, none⟩ = some (.slice A3 g.users.length c3)) := fun W hW => by
    have h1 := (hW.block w.heap.size (by omega)).trans hx1
    exact ⟨hb1.trans (hW.mono (by omega)), cell_of_row W _ 0 _ _ _ h1, cell_of_row W _ 1 _ _ _ h1, cell_of_row W _ 2 _ _ _ h1, cell_of_row W _ 3 _ _ _ h1⟩
  have HG : Hid (∀ W, Below w.heap.size w W → GridA W W.heap.size g A1 A2 A3 ∧ FaultsA W W.heap.size A F) := fun W hW => ⟨(h.keep hW).more hW.size, (hf.keep hW).more hW.size⟩
  obtain ⟨_, p0, p1, p2, p3⟩ := HX.out w1 (Below.refl _ _)
  obtain ⟨E1, hE1⟩ : ∃ E1, checkG g = E1 := ⟨_, rfl⟩
  obtain ⟨E2, hE2⟩ : ∃ E2, checkF g F = E2 := ⟨_, rfl⟩
  have HCK := Lib.hid (fun W hW => check_any g A1 A2 A3 c1 c2 c3 W (HG.out W hW).1 hE1)
  have HZ : Hid (∀ e w', e = .returned (.tuple #[.slice none 0 0, .int .i64 (if E1 = 0 then E2 else E1)]) → (if E1 = 0 then E2 else E1) ≠ 0 → Below w.heap.size w w' → ServedP g F w e w') := fun e w' he hne hb => by
    have : checkGF g F = if E1 = 0 then E2 else E1 := by unfold checkGF; rw [hE1, hE2]
    exact ⟨hb, .inl ⟨by rw [this]; exact hne, by rw [this]; exact he⟩⟩
  have HY : Hid (E1 = 0 → E2 = 0 → ∀ w' v, BoolsO w' w.heap.size v g.users.length (servedB g F) → Below w.heap.size w w' → ServedP g F w (.returned (.tuple #[v, .int .i64 0])) w') := fun h1 h2 w' v hB hb => ⟨hb, .inr ⟨by unfold checkGF; rw [hE1, hE2, h1, h2]; rfl, v, rfl, hB⟩⟩
  unfold gridC at HCK ⊢
  clear h hf hb1 hx1
  by_cases hk : E1 = 0
  · subst hk
    obtain ⟨n, hgo⟩ := checkG_ok hE1
    have hn := hgo.few
    have hnn := hgo.nodes
    have HCF := Lib.hid (fun W hW => checkF_any g A1 A2 A3 c1 c2 c3 A cap F W (HG.out W hW).1 (HG.out W hW).2 hcap (by omega) hE2)
    have HSV := Lib.hid (fun W hW => served_any g A1 A2 A3 c1 c2 c3 A cap F W (HG.out W hW).1 (HG.out W hW).2 hgo)
    unfold gridC at HCF HSV
    clear hE1 hE2 hgo hn hnn
    by_cases hk2 : E2 = 0
    · subst hk2
      go_enter Try.func17, Try.ntmps17
      go_wp2_with (first
        | (go_at_call 35; refine (HCK.out _ (HX.out _ (Below.refl _ _)).1).mono ?_; rintro e w2 ⟨rfl, hb2⟩; have HB2 := Lib.hid hb2; clear hb2 p0 p1 p2 p3; obtain ⟨_, p0, p1, p2, p3⟩ := HX.out w2 HB2.out)
        | (go_at_call 54; refine (HCF.out _ (HX.out _ HB2.out).1).mono ?_; rintro e w3 ⟨rfl, hb3⟩; have HB3 : Hid (Below w1.heap.size w1 w3) := HB2.out.trans (hb3.mono HB2.out.size); clear hb3 p0 p1 p2 p3; obtain ⟨_, p0, p1, p2, p3⟩ := HX.out w3 HB3.out)
        | (go_at_call 55; refine (HSV.out _ (HX.out _ HB3.out).1).mono ?_; rintro e w4 ⟨v, rfl, hv4, hb4⟩; have HV4 := Lib.hid hv4; have HB4 : Hid (Below w1.heap.size w1 w4) := HB3.out.trans (hb4.mono HB3.out.size); clear hb4 hv4 p0 p1 p2 p3)
        | fail)
      go_ret2
      refine HY.out (by simp) (by simp) _ _ ?_ (HX.out _ HB4.out).1
      obtain ⟨ob, e1, e2, e3⟩ := HV4.out
      exact ⟨ob, e1, by have := (HX.out _ HB3.out).1.size; omega, e3⟩
    · have hz' : (E2 != 0) = true := by simpa using hk2
      have HZN : Hid (E2 ≠ 0) := hk2
      clear hk2
      go_enter Try.func17, Try.ntmps17
      go_wp2_with (first
        | (go_at_call 35; refine (HCK.out _ (HX.out _ (Below.refl _ _)).1).mono ?_; rintro e w2 ⟨rfl, hb2⟩; have HB2 := Lib.hid hb2; clear hb2 p0 p1 p2 p3; obtain ⟨_, p0, p1, p2, p3⟩ := HX.out w2 HB2.out)
        | (go_at_call 54; refine (HCF.out _ (HX.out _ HB2.out).1).mono ?_; rintro e w3 ⟨rfl, hb3⟩; have HB3 : Hid (Below w1.heap.size w1 w3) := HB2.out.trans (hb3.mono HB2.out.size); clear hb3 p0 p1 p2 p3; obtain ⟨_, p0, p1, p2, p3⟩ := HX.out w3 HB3.out)
        | fail)
      go_ret2
      exact HZ.out _ _ rfl HZN.out (HX.out _ HB3.out).1
  · have hz' : (E1 != 0) = true := by simpa using hk
    have HZN : Hid ((if E1 = 0 then E2 else E1) = E1 ∧ E1 ≠ 0) := ⟨if_neg hk, hk⟩
    clear hk hE1 hE2
    go_enter Try.func17, Try.ntmps17
    go_wp2_with (go_at_call 35; refine (HCK.out _ (HX.out _ (Below.refl _ _)).1).mono ?_; rintro e w2 ⟨rfl, hb2⟩; have HB2 := Lib.hid hb2; clear hb2 p0 p1 p2 p3)
    go_ret2
    exact HZ.out _ _ (by rw [HZN.out.1]; rfl) (by rw [HZN.out.1]; exact HZN.out.2) (HX.out _ HB2.out).1
end Go.Proofs.Ytegclodchhcbaaa
