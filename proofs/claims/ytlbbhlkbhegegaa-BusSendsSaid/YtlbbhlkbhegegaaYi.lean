/- Walks: Send of the program. Printed by gen_yi.py. -/
import Derived.Test.YtlbbhlkbhegegaaYn
import Derived.Test.YtlbbhlkbhegegaaYh
import Derived.Test.YtlbbhlkbhegegaaRp1
import Derived.Test.YtlbbhlkbhegegaaN9
import Derived.Deep.RegionHeld3
namespace Go.Proofs.Ytlbbhlkbhegegaa
open Go.RowKit

/-! ### all rows lawful -/
theorem send1_b (A : Option Addr) (cap : Nat) (l : List Int) (w : World) (h : IntsA w w.heap.size A l) {r : Bool} (hr : lawfulB l = r) : Calls Try.prog 89 #[.slice A l.length cap] w fun e w' => e = .returned (.bool !r) ∧ Below w.heap.size w w' := by
  have HC := Lib.hid (lawful_b A cap l w h hr)
  clear hr h
  go_enter Try.func89, Try.ntmps89
  go_wp2_with (go_at_call 85; refine HC.out.mono ?_; rintro e w2 ⟨rfl, hb2⟩)
  go_ret
  exact ⟨rfl, hb2⟩
set_option maxRecDepth 100000 in
set_option maxHeartbeats 2000000 in
theorem indexRow_any (O : Option Addr) (cap : Nat) (tr : List (List Int)) (w : World) (h : RowsT w w.heap.size O tr) :
    Calls Try.prog 111 #[.slice O tr.length cap, .func (.func 89) #[] #[]] w fun e w' => ∃ i : Int, e = .returned (.int .i64 i) ∧ ((0 ≤ i ↔ tr.all lawfulB = false)) ∧ Below w.heap.size w w' := by
  have hlen := h.1
  unfold maxLen at hlen
  go_enter Try.func111, Try.ntmps111
  go_wp2_with fail
  go_loopw [8] (fun i wr => ∃ k : Nat, k ≤ tr.length ∧ i = .int .i64 k ∧ Hid (∀ j, j < k → lawfulB (tr.getD j []) = true) ∧ Below w.heap.size w wr) (fun i _ => tr.length - (intOf i).toNat)
  case atStart => exact ⟨0, Nat.zero_le _, rfl, fun j hj => by omega, Below.refl _ _⟩
  case round =>
    obtain ⟨k, hk, rfl, HI, hbw⟩ := hrel
    have hsz := hbw.size
    by_cases hlt : k < tr.length
    · obtain ⟨l, b, off, Ap, cp, hl, rfl, hb, c0, hcp, hI⟩ := (h.below hbw (Nat.le_refl _)).at_ hlt
      have HG : Hid (tr.getD k [] = l) := by show _ = _; rw [List.getD_eq_getElem?_getD, hl]; rfl
      have HL := Lib.hid hl
      rcases hx : lawfulB l
      all_goals
        have HX := Lib.hid hx
        have HC := Lib.hid (send1_b Ap cp l wr (hI.more hsz) hx)
        clear hx hl
        go_wp2_with (go_at_call 89; refine HC.out.mono ?_; rintro e w2 ⟨rfl, hb2⟩)
      · go_ret
        refine ⟨k, rfl, ⟨fun _ => ?_, fun _ => by omega⟩, hbw.trans (hb2.mono hsz)⟩
        rw [List.all_eq_false]
        exact ⟨l, List.mem_of_getElem? HL.out, by simp [HX.out]⟩
      · go_roundw
        case rel => exact ⟨k + 1, by omega, by go_num, nat_snoc HI.out (by rw [HG.out]; exact HX.out), hbw.trans (hb2.mono hsz)⟩
        case measure => simp [intOf]; omega
    · obtain rfl : k = tr.length := by omega
      go_wp2_with fail
      go_ret
      refine ⟨-1, rfl, ⟨fun h => by omega, fun h => ?_⟩, hbw⟩
      rw [List.all_eq_false] at h
      obtain ⟨x, hx, hn⟩ := h
      obtain ⟨j, hj, rfl⟩ := List.mem_iff_getElem.1 hx
      have := HI.out j hj
      rw [List.getD_eq_getElem?_getD, List.getElem?_eq_getElem hj] at this
      exact absurd this hn
theorem containsRow_b (O : Option Addr) (cap : Nat) (tr : List (List Int)) (w : World) (h : RowsT w w.heap.size O tr) {b : Bool} (he : tr.all lawfulB = b) :
    Calls Try.prog 88 #[.slice O tr.length cap, .func (.func 89) #[] #[]] w fun e w' => e = .returned (.bool !b) ∧ Below w.heap.size w w' := by
  have HC := Lib.hid (indexRow_any O cap tr w h)
  have HE := Lib.hid he
  clear he
  go_enter Try.func88, Try.ntmps88
  go_wp2_with (go_at_call 111; refine HC.out.mono ?_; rintro e w2 ⟨i, rfl, hi, hb2⟩; have HI := Lib.hid hi; clear hi)
  go_ret
  refine ⟨ret_b ?_, hb2⟩
  rcases b with _ | _
  · exact decide_eq_true (HI.out.2 HE.out)
  · exact decide_eq_false fun h => by have := HI.out.1 h; rw [HE.out] at this; cases this
/-! ### the post made -/
theorem info_pkts : (Try.prog.info? 115).map (fun i => (i.zero, i.size, i.bytes)) = some (some (.slice none 0 0), 1, 24) := by kernel_rfl
theorem under_lines : Try.prog.underlying 112 = some (.slice 115) := by kernel_rfl
theorem run_lines (n : Nat) (hn : n ≤ 1000000) (w : World) : (Instr.makeSlice 112 (.int .i64 (n : Int)) (.int .i64 (n : Int))).run Try.prog w = .ok (.slice (some ⟨w.heap.size, 0, none⟩) n n) (w.alloc (.cells (madeCells #[.slice none 0 0] n) 115)) := by
  obtain ⟨i0, hi, hz0, hz1, hz2⟩ := info_parts info_pkts
  have h := run_make (P := Try.prog) (w := w) 112 115 i0 (.slice none 0 0) under_lines hi hz0 .i64 .i64 (n : Int) (n : Int) (by omega) (by omega) (by rw [hz2]; omega) (by omega)
  rw [h, hz1]
  simp [Value.cells]
theorem own_lines (w : World) (n : Nat) : OwnF (w.alloc (.cells (madeCells #[.slice none 0 0] n) 115)) w.heap.size 115 n (fun _ => nilS) := by
  refine ⟨_, heap_alloc_new w _, by simp [madeCells], fun j hj => ?_⟩
  simp [madeCells, hj, Nat.mod_one, nilS]
def mot0 : Mot := ⟨[], fun _ => [], 0, fun _ => -1⟩
theorem post_made {W : World} {B mb lb ob : Nat} {A1 : Option Addr} {c1 : Nat} {A2 : Option Addr} {c2 : Nat} {N : MNet} (hm : MapH W mb 0 (fun _ => nilS)) (hl : OwnF W lb 115 N.gates.length (fun _ => nilS)) (ho : OwnF W ob 3 N.flows.length (fun _ => .int .i64 (-1))) (hne : mb ≠ lb ∧ mb ≠ ob ∧ lb ≠ ob) (hB : B ≤ mb ∧ B ≤ lb ∧ B ≤ ob) (hn : NetA W B A1 A2 N) :
    PostA ⟨B, W.heap.size, mb, lb, ob, W.heap.size + 1, A1, c1, A2, c2, N⟩ (W.alloc (.cells (boxC ⟨B, W.heap.size, mb, lb, ob, W.heap.size + 1, A1, c1, A2, c2, N⟩ 0) 114)) 0 (fun _ => curL) (fun _ => nilS) (fun _ => []) mot0 := by
  have h1 := hm.lt
  have h2 := hl.lt
  have h3 := ho.lt
  refine ⟨heap_alloc_new W _, hm.moved (Below.heap_alloc W _ _ h1), hl.alloc _, ho.alloc _, fun lab => RowC.nil, fun t _ => rfl, hn.below ((Below.refl B W).alloc (by omega) _) (Nat.le_refl _), ⟨by show B ≤ W.heap.size; omega, hB.1, hB.2.1, hB.2.2, by show W.heap.size < W.heap.size + 1; omega, by show mb < W.heap.size + 1; omega, by show lb < W.heap.size + 1; omega, by show ob < W.heap.size + 1; omega, by show W.heap.size ≠ mb; omega, by show W.heap.size ≠ lb; omega, by show W.heap.size ≠ ob; omega, hne.1, hne.2.1, hne.2.2⟩, by show W.heap.size + 1 ≤ (W.alloc _).heap.size; simp, fun g => rfl, fun t _ => StQ.refl _⟩
/-- the post is there -/
def PostN (B : Nat) (A1 : Option Addr) (c1 : Nat) (A2 : Option Addr) (c2 : Nat) (N : MNet) (w0 : World) (pb : Nat) (W : World) : Prop := ∃ mb lb ob base, PostA ⟨B, pb, mb, lb, ob, base, A1, c1, A2, c2, N⟩ W 0 (fun _ => curL) (fun _ => nilS) (fun _ => []) mot0 ∧ Below w0.heap.size w0 W
/-! ### the start, as it is made -/
def motW (W : List (Int × MPkt)) : Mot := ⟨W, fun _ => [], totW W, fun _ => -1⟩
theorem motW_add (W : List (Int × MPkt)) (u : Int) (x : MPkt) : setLeft (addW (motW W) u x) (totW W + x.many) = motW (W ++ [(u, x)]) := by
  unfold setLeft addW motW
  have : totW (W ++ [(u, x)]) = totW W + x.many := by
    rw [totW_app]
    unfold totW
    simp
  rw [this]
theorem rowM_ok {i : Nat} {l : List Int} (hl : ∀ b ∈ l, 0 ≤ b ∧ b ≤ 1000) : ∀ j, (rowM i l j).length ≤ j ∧ ∀ p ∈ rowM i l j, 1 ≤ p.2.many ∧ p.2.many ≤ 1000
  | 0 => ⟨Nat.le_refl _, fun p hp => by cases hp⟩
  | j + 1 => by
    have ih := rowM_ok hl (i := i) j
    rw [rowM_succ]
    by_cases hb : 0 < l.getD j 0
    · rw [if_pos hb]
      refine ⟨by rw [List.length_append]; simp only [List.length_cons, List.length_nil]; omega, fun p hp => ?_⟩
      rcases List.mem_append.1 hp with hp | hp
      · exact ih.2 p hp
      · obtain rfl := List.mem_singleton.1 hp
        refine ⟨by show 1 ≤ l.getD j 0; omega, ?_⟩
        show l.getD j 0 ≤ 1000
        rcases Nat.lt_or_ge j l.length with h | h
        · rw [List.getD_eq_getElem?_getD, List.getElem?_eq_getElem h]
          exact (hl _ (List.getElem_mem h)).2
        · rw [List.getD_eq_getElem?_getD, List.getElem?_eq_none h]; decide
    · rw [if_neg hb, List.append_nil]
      exact ⟨by omega, ih.2⟩
theorem startW_ok2 {tr : List (List Int)} (h : tr.all lawfulB = true) : ∀ k, k ≤ tr.length → (startW tr k).length ≤ 64 * k ∧ ∀ p ∈ startW tr k, 1 ≤ p.2.many ∧ p.2.many ≤ 1000
  | 0, _ => ⟨Nat.le_refl _, fun p hp => by cases hp⟩
  | k + 1, hk => by
    have ih := startW_ok2 h k (by omega)
    have hg : tr[k]? = some tr[k] := List.getElem?_eq_getElem hk
    have hl := lawful_at h hg
    have e : tr.getD k [] = tr[k] := by rw [List.getD_eq_getElem?_getD, hg]; rfl
    have hr := rowM_ok (i := k) hl.2 tr[k].length
    rw [startW_succ, e]
    refine ⟨by rw [List.length_append]; omega, fun p hp => ?_⟩
    rcases List.mem_append.1 hp with hp | hp
    · exact ih.2 p hp
    · exact hr.2 p hp
theorem totW_bd : ∀ {W : List (Int × MPkt)}, (∀ p ∈ W, 1 ≤ p.2.many ∧ p.2.many ≤ 1000) → 0 ≤ totW W ∧ totW W ≤ 1000 * W.length
  | [], _ => by simp [totW]
  | p :: W, h => by
    have h1 := totW_bd (W := W) fun q hq => h q (by simp [hq])
    have h2 := h p (by simp)
    unfold totW at h1 ⊢
    rw [List.map_cons, List.sum_cons, List.length_cons]
    omega
theorem own_map0 {w : World} {g n : Nat} {F : Nat → Int} (h : OwnF w g 3 n (fun j => .int .i64 (F j))) (hn : n ≤ 1000000) : IntsA w w.heap.size (some ⟨g, 0, none⟩) ((List.range n).map F) := by
  have hl : ((List.range n).map F).length = n := by simp
  refine OwnF.ints (T := 3) ?_ (by rw [hl]; unfold maxLen; omega)
  rw [hl]
  exact h.congr fun j hj => by simp [List.getD_eq_getElem?_getD, hj]
theorem PostR.mono {p : PPar} {w : World} {M M' : Nat} {own : Nat → Int} {s : Mot} (h : PostR p w M own s) (hM : M ≤ M') : PostR p w M' own s := by
  obtain ⟨nm, H, l, h1, h2⟩ := h
  exact ⟨nm, H, l, by omega, h2⟩
theorem runM_stop (n : MNet) (k : Nat) {s : Mot} (h : ¬ 0 < s.left) : runM n k s = some s := by
  cases k with
  | zero => rw [runM, if_neg h]
  | succ k => rw [runM, if_neg h]
theorem runM_go (n : MNet) {t : Nat} (ht : t ≤ 10000) {s : Mot} (h : 0 < s.left) : runM n (10001 - t) s = runM n (10001 - (t + 1)) (tickM n t s) := by
  rw [show 10001 - t = (10000 - t) + 1 by omega, runM, if_pos h, show 10001 - (t + 1) = 10000 - t by omega, show 10000 - ((10000 - t : Nat) : Int) = (t : Int) by omega]
theorem IntsA.nil0 (w : World) (B : Nat) (A : Option Addr) : IntsA w B A [] := ⟨Nat.zero_le _, fun h => by simp at h⟩
/-- objects made one after the other -/
def alls : World → List Obj → World
  | w, [] => w
  | w, o :: os => alls (w.alloc o) os
theorem alls_size : ∀ (os : List Obj) (w : World), (alls w os).heap.size = w.heap.size + os.length
  | [], _ => rfl
  | o :: os, w => by
    rw [alls, alls_size os, World.size_alloc, List.length_cons]
    omega
theorem alls_below : ∀ (os : List Obj) (w : World) (B : Nat), B ≤ w.heap.size → Below B w (alls w os)
  | [], w, B, _ => Below.refl B w
  | o :: os, w, B, h => by
    rw [alls]
    exact ((Below.refl B w).alloc h o).trans (alls_below os (w.alloc o) B (by rw [World.size_alloc]; omega))
theorem alls_get : ∀ (os : List Obj) (w : World) (i : Nat) (o : Obj), os[i]? = some o → (alls w os).heap[w.heap.size + i]? = some o
  | [], _, _, _, h => by cases h
  | a :: os, w, 0, o, h => by
    have h := Option.some.inj h
    subst h
    rw [alls, Nat.add_zero]
    exact ((alls_below os (w.alloc a) (w.alloc a).heap.size (Nat.le_refl _)).block _ (by rw [World.size_alloc]; omega)).trans (heap_alloc_new w a)
  | a :: os, w, i + 1, o, h => by
    rw [alls]
    have := alls_get os (w.alloc a) i o (by simpa using h)
    rw [World.size_alloc] at this
    rw [show w.heap.size + (i + 1) = w.heap.size + 1 + i by omega]
    exact this
theorem mapH_of {W : World} {mb : Nat} (h : W.heap[mb]? = some (.map #[] 0)) : MapH W mb 0 (fun _ => nilS) := by
  obtain ⟨es, clock, h1, h2⟩ := World.ownsMap_made (H := Value) W Try.prog 3 encH
  rw [heap_alloc_new W _] at h1
  have h1 := Option.some.inj h1
  injection h1 with e1 e2
  subst e1 e2
  exact ⟨.map [], ⟨#[], 0, h, h2⟩, fun _ _ _ => rfl⟩
theorem ownL_of {W : World} {g n : Nat} (h : W.heap[g]? = some (.cells (madeCells #[.slice none 0 0] n) 115 (0, 0))) : OwnF W g 115 n (fun _ => nilS) := by
  refine ⟨_, h, by simp [madeCells], fun j hj => ?_⟩
  simp [madeCells, hj, Nat.mod_one, nilS]
theorem post_n {wa W : World} {B mb lb ob pb : Nat} {A1 : Option Addr} {c1 : Nat} {A2 : Option Addr} {c2 : Nat} {N : MNet} (hm : W.heap[mb]? = some (.map #[] 0)) (hl : W.heap[lb]? = some (.cells (madeCells #[.slice none 0 0] N.gates.length) 115 (0, 0))) (ho : OwnF W ob 3 N.flows.length (fun _ => .int .i64 (-1))) (hne : mb ≠ lb ∧ mb ≠ ob ∧ lb ≠ ob) (hB : B ≤ mb ∧ B ≤ lb ∧ B ≤ ob) (hn : NetA W B A1 A2 N) (hb : Below wa.heap.size wa W) (hpb : pb = W.heap.size) :
    PostN B A1 c1 A2 c2 N wa pb (W.alloc (.cells #[.slice A1 N.gates.length c1, .slice A2 N.flows.length c2, .map (some mb), .slice (some ⟨lb, 0, none⟩) N.gates.length N.gates.length, .int .i64 0, .slice (some ⟨ob, 0, none⟩) N.flows.length N.flows.length] 114)) := by
  subst hpb
  exact ⟨mb, lb, ob, W.heap.size + 1, post_made (mapH_of hm) (ownL_of hl) ho hne hB hn, hb.alloc hb.size _⟩
theorem check_valid {n : MNet} (h : checkS n = 0) : netB n = true := by
  rcases hv : netB n
  · rw [check_45 hv] at h; omega
  · rfl
/-- what Send leaves -/
def RetS (w : World) (p : List Int × Int) (e : Ending) (w' : World) : Prop := Below w.heap.size w w' ∧ ∃ X k, e = .returned (.tuple #[.slice X p.1.length k, .int .i64 p.2]) ∧ p.1.length ≤ k ∧ IntsA w' w'.heap.size X p.1
section
variable {A1 A2 : Option Addr} {c1 c2 : Nat} {n : MNet}
set_option maxRecDepth 100000 in
set_option maxHeartbeats 8000000 in
theorem send_any45 (O : Option Addr) (cap : Nat) (tr : List (List Int)) (w : World) (h : NetA w w.heap.size A1 A2 n) (hT : RowsT w w.heap.size O tr) (hmuch : checkS n = 0 → tr.length = n.flows.length → tr.all lawfulB = true → totW (startW tr tr.length) ≤ 6000 ∧ n.gates.length ≤ 8) {p : List Int × Int} (hp : sendOut n tr = p) :
    Calls Try.prog 45 #[.agg #[.slice A1 n.gates.length c1, .slice A2 n.flows.length c2], .slice O tr.length cap] w (RetS w p) := by
  have hE := NetEnv.make (c1 := c1) (c2 := c2) (t := 25) h
  obtain ⟨w1, hw1⟩ : ∃ w1, w.alloc (.cells #[.slice A1 n.gates.length c1, .slice A2 n.flows.length c2] 25) = w1 := ⟨_, rfl⟩
  rw [hw1] at hE
  have HT : Hid (∀ W, Below w.heap.size w W → RowsT W w.heap.size O tr) := fun W hW => hT.below hW (Nat.le_refl _)
  have htl := hT.1
  unfold maxLen at htl
  have HE := Lib.hid hE
  have HPP := Lib.hid hp
  have HMU := Lib.hid hmuch
  obtain ⟨r, hr⟩ : ∃ r, checkS n = r := ⟨_, rfl⟩
  have HR := Lib.hid hr
  have HC1 := Lib.hid (check_b A1 A2 c1 c2 n r w1 (hE.net.more (Nat.le_of_lt hE.size)) hr)
  obtain ⟨a0, a1⟩ := And.intro hE.c0 hE.c1
  have hgl : n.gates.length ≤ maxLen ∧ n.flows.length ≤ maxLen := ⟨h.1, h.2.1⟩
  unfold maxLen at hgl
  clear hT h hp hmuch hr hE
  go_enter Try.func45, Try.ntmps45
  go_upto_region 1 with fail
  (try rw [hw1])
  clear hw1
  go_upto_region 2 with (go_at_call 17; refine HC1.out.mono ?_; rintro e w2 ⟨rfl, hb2⟩; have HE2 := Lib.hid (HE.out.below hb2 HE.out.size); clear hb2)
  clear a0 a1 HC1
  by_cases hr0 : r = 0
  · have g1 : (r != 0) = false := by simpa using hr0
    obtain ⟨a0, a1⟩ := And.intro HE2.out.c0 HE2.out.c1
    by_cases hlen : tr.length = n.flows.length
    · have g2 : ((tr.length : Int) != (n.flows.length : Int)) = false := by rw [bne_eq_false_iff_eq]; omega
      obtain ⟨q, hq⟩ : ∃ q, tr.all lawfulB = q := ⟨_, rfl⟩
      have HQ := Lib.hid hq
      have HC2 := Lib.hid (containsRow_b O cap tr w2 ((HT.out w2 HE2.out.old).more (Nat.le_of_lt HE2.out.size)) hq)
      have HLN := Lib.hid hlen
      have HR0 := Lib.hid hr0
      clear hq hlen hr0
      go_upto_if 28 with (go_at_call 88; refine HC2.out.mono ?_; rintro e wa ⟨rfl, hb3⟩; have HE3 := Lib.hid (HE2.out.below hb3 HE2.out.size); clear hb3)
      clear HC2 a0 a1
      rcases q
      · have HPE : Hid (p = ([], 1)) := by
          show _ = _
          rw [← HPP.out]
          unfold sendOut
          rw [if_neg (by rw [HR.out, HR0.out]; simp), if_pos (.inr HQ.out)]
        go_wp2_with fail
        go_ret2
        exact ⟨HE3.out.old, none, 0, by rw [HPE.out]; rfl, by rw [HPE.out]; exact Nat.le_refl _, by rw [HPE.out]; exact IntsA.nil0 _ _ _⟩
      · obtain ⟨a0, a1⟩ := And.intro HE3.out.c0 HE3.out.c1
        go_wp2_with fail
        go_upto_region 6 with fail
        clear HE HE2
        have hmu := HMU.out (by rw [HR.out, HR0.out]) HLN.out HQ.out
        have hv := check_valid (by rw [HR.out, HR0.out] : checkS n = 0)
        have hnl := netB_len hv
        have hnf : n.flows.length ≤ 1000 := by omega
        have hmm := @run_makeMap Try.prog
        have hms : ∀ W : World, (Instr.makeSlice 112 (.int .i64 (n.gates.length : Int)) (.int .i64 (n.gates.length : Int))).run Try.prog W = .ok (.slice (some ⟨W.heap.size, 0, none⟩) n.gates.length n.gates.length) (W.alloc (.cells (madeCells #[.slice none 0 0] n.gates.length) 115)) := fun W => run_lines n.gates.length (by omega) W
        have hbx := HE3.out.size
        have HXS : Hid (∀ W, Below wa.heap.size wa W → W.cell? ⟨w.heap.size, 0, none⟩ = some (.slice A1 n.gates.length c1) ∧ W.cell? ⟨w.heap.size, 1, none⟩ = some (.slice A2 n.flows.length c2)) := fun W hW => ⟨(bcell hW _ _ hbx).trans a0, (bcell hW _ _ hbx).trans a1⟩
        have HNA : Hid (∀ W, Below wa.heap.size wa W → NetA W (w.heap.size + 1) A1 A2 n) := fun W hW => (HE3.out.net.below (hW.mono (Nat.le_of_lt hbx)) (Nat.le_refl _)).more (Nat.le_succ _)
        have HBB : Hid (Below wa.heap.size wa wa) := Below.refl _ _
        have HBX := Lib.hid hbx
        clear a0 a1
        have HW0 : Hid (((wa.alloc (.cells #[.int .i64 (-1)] 3)).drew.heap.size = wa.heap.size + 1 ∧ Below wa.heap.size wa (wa.alloc (.cells #[.int .i64 (-1)] 3)).drew) ∧ (wa.alloc (.cells #[.int .i64 (-1)] 3)).drew.heap[wa.heap.size]? = some (.cells #[.int .i64 (-1)] 3 (0, 0))) := by
          refine ⟨⟨?_, ?_⟩, ?_⟩
          · exact alls_size [(.cells #[.int .i64 (-1)] 3)] wa
          · exact bel_drew (alls_below [(.cells #[.int .i64 (-1)] 3)] wa _ (Nat.le_refl _))
          · exact alls_get [(.cells #[.int .i64 (-1)] 3)] wa 0 _ rfl
        have HC0 := Lib.hid (repeat_any wa.heap.size 1 n.flows.length (-1) (wa.alloc (.cells #[.int .i64 (-1)] 3)).drew (cell_of_row _ _ 0 _ _ _ HW0.out.2) (by rw [HW0.out.1.1]; omega) hnf)
        have HW1 : Hid ((((wa.alloc (.cells #[.int .i64 (-1)] 3)).alloc (.map #[] 0)).drew.heap.size = wa.heap.size + 2 ∧ Below wa.heap.size wa ((wa.alloc (.cells #[.int .i64 (-1)] 3)).alloc (.map #[] 0)).drew) ∧ ((wa.alloc (.cells #[.int .i64 (-1)] 3)).alloc (.map #[] 0)).drew.heap[wa.heap.size]? = some (.cells #[.int .i64 (-1)] 3 (0, 0)) ∧ ((wa.alloc (.cells #[.int .i64 (-1)] 3)).alloc (.map #[] 0)).drew.heap[(wa.heap.size + 1)]? = some (.map #[] 0)) := by
          refine ⟨⟨?_, ?_⟩, ?_, ?_⟩
          · exact alls_size [(.cells #[.int .i64 (-1)] 3), (.map #[] 0)] wa
          · exact bel_drew (alls_below [(.cells #[.int .i64 (-1)] 3), (.map #[] 0)] wa _ (Nat.le_refl _))
          · exact alls_get [(.cells #[.int .i64 (-1)] 3), (.map #[] 0)] wa 0 _ rfl
          · exact alls_get [(.cells #[.int .i64 (-1)] 3), (.map #[] 0)] wa 1 _ rfl
        have HC1 := Lib.hid (repeat_any wa.heap.size 1 n.flows.length (-1) ((wa.alloc (.cells #[.int .i64 (-1)] 3)).alloc (.map #[] 0)).drew (cell_of_row _ _ 0 _ _ _ HW1.out.2.1) (by rw [HW1.out.1.1]; omega) hnf)
        have HW2 : Hid ((((wa.alloc (.map #[] 0)).alloc (.cells #[.int .i64 (-1)] 3)).drew.heap.size = wa.heap.size + 2 ∧ Below wa.heap.size wa ((wa.alloc (.map #[] 0)).alloc (.cells #[.int .i64 (-1)] 3)).drew) ∧ ((wa.alloc (.map #[] 0)).alloc (.cells #[.int .i64 (-1)] 3)).drew.heap[wa.heap.size]? = some (.map #[] 0) ∧ ((wa.alloc (.map #[] 0)).alloc (.cells #[.int .i64 (-1)] 3)).drew.heap[(wa.heap.size + 1)]? = some (.cells #[.int .i64 (-1)] 3 (0, 0))) := by
          refine ⟨⟨?_, ?_⟩, ?_, ?_⟩
          · exact alls_size [(.map #[] 0), (.cells #[.int .i64 (-1)] 3)] wa
          · exact bel_drew (alls_below [(.map #[] 0), (.cells #[.int .i64 (-1)] 3)] wa _ (Nat.le_refl _))
          · exact alls_get [(.map #[] 0), (.cells #[.int .i64 (-1)] 3)] wa 0 _ rfl
          · exact alls_get [(.map #[] 0), (.cells #[.int .i64 (-1)] 3)] wa 1 _ rfl
        have HC2 := Lib.hid (repeat_any (wa.heap.size + 1) 1 n.flows.length (-1) ((wa.alloc (.map #[] 0)).alloc (.cells #[.int .i64 (-1)] 3)).drew (cell_of_row _ _ 0 _ _ _ HW2.out.2.2) (by rw [HW2.out.1.1]; omega) hnf)
        have HW3 : Hid ((((wa.alloc (.cells #[.int .i64 (-1)] 3)).alloc (.cells (madeCells #[.slice none 0 0] n.gates.length) 115)).drew.heap.size = wa.heap.size + 2 ∧ Below wa.heap.size wa ((wa.alloc (.cells #[.int .i64 (-1)] 3)).alloc (.cells (madeCells #[.slice none 0 0] n.gates.length) 115)).drew) ∧ ((wa.alloc (.cells #[.int .i64 (-1)] 3)).alloc (.cells (madeCells #[.slice none 0 0] n.gates.length) 115)).drew.heap[wa.heap.size]? = some (.cells #[.int .i64 (-1)] 3 (0, 0)) ∧ ((wa.alloc (.cells #[.int .i64 (-1)] 3)).alloc (.cells (madeCells #[.slice none 0 0] n.gates.length) 115)).drew.heap[(wa.heap.size + 1)]? = some (.cells (madeCells #[.slice none 0 0] n.gates.length) 115 (0, 0))) := by
          refine ⟨⟨?_, ?_⟩, ?_, ?_⟩
          · exact alls_size [(.cells #[.int .i64 (-1)] 3), (.cells (madeCells #[.slice none 0 0] n.gates.length) 115)] wa
          · exact bel_drew (alls_below [(.cells #[.int .i64 (-1)] 3), (.cells (madeCells #[.slice none 0 0] n.gates.length) 115)] wa _ (Nat.le_refl _))
          · exact alls_get [(.cells #[.int .i64 (-1)] 3), (.cells (madeCells #[.slice none 0 0] n.gates.length) 115)] wa 0 _ rfl
          · exact alls_get [(.cells #[.int .i64 (-1)] 3), (.cells (madeCells #[.slice none 0 0] n.gates.length) 115)] wa 1 _ rfl
        have HC3 := Lib.hid (repeat_any wa.heap.size 1 n.flows.length (-1) ((wa.alloc (.cells #[.int .i64 (-1)] 3)).alloc (.cells (madeCells #[.slice none 0 0] n.gates.length) 115)).drew (cell_of_row _ _ 0 _ _ _ HW3.out.2.1) (by rw [HW3.out.1.1]; omega) hnf)
        have HW4 : Hid ((((wa.alloc (.cells (madeCells #[.slice none 0 0] n.gates.length) 115)).alloc (.cells #[.int .i64 (-1)] 3)).drew.heap.size = wa.heap.size + 2 ∧ Below wa.heap.size wa ((wa.alloc (.cells (madeCells #[.slice none 0 0] n.gates.length) 115)).alloc (.cells #[.int .i64 (-1)] 3)).drew) ∧ ((wa.alloc (.cells (madeCells #[.slice none 0 0] n.gates.length) 115)).alloc (.cells #[.int .i64 (-1)] 3)).drew.heap[wa.heap.size]? = some (.cells (madeCells #[.slice none 0 0] n.gates.length) 115 (0, 0)) ∧ ((wa.alloc (.cells (madeCells #[.slice none 0 0] n.gates.length) 115)).alloc (.cells #[.int .i64 (-1)] 3)).drew.heap[(wa.heap.size + 1)]? = some (.cells #[.int .i64 (-1)] 3 (0, 0))) := by
          refine ⟨⟨?_, ?_⟩, ?_, ?_⟩
          · exact alls_size [(.cells (madeCells #[.slice none 0 0] n.gates.length) 115), (.cells #[.int .i64 (-1)] 3)] wa
          · exact bel_drew (alls_below [(.cells (madeCells #[.slice none 0 0] n.gates.length) 115), (.cells #[.int .i64 (-1)] 3)] wa _ (Nat.le_refl _))
          · exact alls_get [(.cells (madeCells #[.slice none 0 0] n.gates.length) 115), (.cells #[.int .i64 (-1)] 3)] wa 0 _ rfl
          · exact alls_get [(.cells (madeCells #[.slice none 0 0] n.gates.length) 115), (.cells #[.int .i64 (-1)] 3)] wa 1 _ rfl
        have HC4 := Lib.hid (repeat_any (wa.heap.size + 1) 1 n.flows.length (-1) ((wa.alloc (.cells (madeCells #[.slice none 0 0] n.gates.length) 115)).alloc (.cells #[.int .i64 (-1)] 3)).drew (cell_of_row _ _ 0 _ _ _ HW4.out.2.2) (by rw [HW4.out.1.1]; omega) hnf)
        have HW5 : Hid (((((wa.alloc (.cells #[.int .i64 (-1)] 3)).alloc (.map #[] 0)).alloc (.cells (madeCells #[.slice none 0 0] n.gates.length) 115)).drew.heap.size = wa.heap.size + 3 ∧ Below wa.heap.size wa (((wa.alloc (.cells #[.int .i64 (-1)] 3)).alloc (.map #[] 0)).alloc (.cells (madeCells #[.slice none 0 0] n.gates.length) 115)).drew) ∧ (((wa.alloc (.cells #[.int .i64 (-1)] 3)).alloc (.map #[] 0)).alloc (.cells (madeCells #[.slice none 0 0] n.gates.length) 115)).drew.heap[wa.heap.size]? = some (.cells #[.int .i64 (-1)] 3 (0, 0)) ∧ (((wa.alloc (.cells #[.int .i64 (-1)] 3)).alloc (.map #[] 0)).alloc (.cells (madeCells #[.slice none 0 0] n.gates.length) 115)).drew.heap[(wa.heap.size + 1)]? = some (.map #[] 0) ∧ (((wa.alloc (.cells #[.int .i64 (-1)] 3)).alloc (.map #[] 0)).alloc (.cells (madeCells #[.slice none 0 0] n.gates.length) 115)).drew.heap[(wa.heap.size + 2)]? = some (.cells (madeCells #[.slice none 0 0] n.gates.length) 115 (0, 0))) := by
          refine ⟨⟨?_, ?_⟩, ?_, ?_, ?_⟩
          · exact alls_size [(.cells #[.int .i64 (-1)] 3), (.map #[] 0), (.cells (madeCells #[.slice none 0 0] n.gates.length) 115)] wa
          · exact bel_drew (alls_below [(.cells #[.int .i64 (-1)] 3), (.map #[] 0), (.cells (madeCells #[.slice none 0 0] n.gates.length) 115)] wa _ (Nat.le_refl _))
          · exact alls_get [(.cells #[.int .i64 (-1)] 3), (.map #[] 0), (.cells (madeCells #[.slice none 0 0] n.gates.length) 115)] wa 0 _ rfl
          · exact alls_get [(.cells #[.int .i64 (-1)] 3), (.map #[] 0), (.cells (madeCells #[.slice none 0 0] n.gates.length) 115)] wa 1 _ rfl
          · exact alls_get [(.cells #[.int .i64 (-1)] 3), (.map #[] 0), (.cells (madeCells #[.slice none 0 0] n.gates.length) 115)] wa 2 _ rfl
        have HC5 := Lib.hid (repeat_any wa.heap.size 1 n.flows.length (-1) (((wa.alloc (.cells #[.int .i64 (-1)] 3)).alloc (.map #[] 0)).alloc (.cells (madeCells #[.slice none 0 0] n.gates.length) 115)).drew (cell_of_row _ _ 0 _ _ _ HW5.out.2.1) (by rw [HW5.out.1.1]; omega) hnf)
        have HW6 : Hid (((((wa.alloc (.map #[] 0)).alloc (.cells #[.int .i64 (-1)] 3)).alloc (.cells (madeCells #[.slice none 0 0] n.gates.length) 115)).drew.heap.size = wa.heap.size + 3 ∧ Below wa.heap.size wa (((wa.alloc (.map #[] 0)).alloc (.cells #[.int .i64 (-1)] 3)).alloc (.cells (madeCells #[.slice none 0 0] n.gates.length) 115)).drew) ∧ (((wa.alloc (.map #[] 0)).alloc (.cells #[.int .i64 (-1)] 3)).alloc (.cells (madeCells #[.slice none 0 0] n.gates.length) 115)).drew.heap[wa.heap.size]? = some (.map #[] 0) ∧ (((wa.alloc (.map #[] 0)).alloc (.cells #[.int .i64 (-1)] 3)).alloc (.cells (madeCells #[.slice none 0 0] n.gates.length) 115)).drew.heap[(wa.heap.size + 1)]? = some (.cells #[.int .i64 (-1)] 3 (0, 0)) ∧ (((wa.alloc (.map #[] 0)).alloc (.cells #[.int .i64 (-1)] 3)).alloc (.cells (madeCells #[.slice none 0 0] n.gates.length) 115)).drew.heap[(wa.heap.size + 2)]? = some (.cells (madeCells #[.slice none 0 0] n.gates.length) 115 (0, 0))) := by
          refine ⟨⟨?_, ?_⟩, ?_, ?_, ?_⟩
          · exact alls_size [(.map #[] 0), (.cells #[.int .i64 (-1)] 3), (.cells (madeCells #[.slice none 0 0] n.gates.length) 115)] wa
          · exact bel_drew (alls_below [(.map #[] 0), (.cells #[.int .i64 (-1)] 3), (.cells (madeCells #[.slice none 0 0] n.gates.length) 115)] wa _ (Nat.le_refl _))
          · exact alls_get [(.map #[] 0), (.cells #[.int .i64 (-1)] 3), (.cells (madeCells #[.slice none 0 0] n.gates.length) 115)] wa 0 _ rfl
          · exact alls_get [(.map #[] 0), (.cells #[.int .i64 (-1)] 3), (.cells (madeCells #[.slice none 0 0] n.gates.length) 115)] wa 1 _ rfl
          · exact alls_get [(.map #[] 0), (.cells #[.int .i64 (-1)] 3), (.cells (madeCells #[.slice none 0 0] n.gates.length) 115)] wa 2 _ rfl
        have HC6 := Lib.hid (repeat_any (wa.heap.size + 1) 1 n.flows.length (-1) (((wa.alloc (.map #[] 0)).alloc (.cells #[.int .i64 (-1)] 3)).alloc (.cells (madeCells #[.slice none 0 0] n.gates.length) 115)).drew (cell_of_row _ _ 0 _ _ _ HW6.out.2.2.1) (by rw [HW6.out.1.1]; omega) hnf)
        have HW7 : Hid (((((wa.alloc (.map #[] 0)).alloc (.cells (madeCells #[.slice none 0 0] n.gates.length) 115)).alloc (.cells #[.int .i64 (-1)] 3)).drew.heap.size = wa.heap.size + 3 ∧ Below wa.heap.size wa (((wa.alloc (.map #[] 0)).alloc (.cells (madeCells #[.slice none 0 0] n.gates.length) 115)).alloc (.cells #[.int .i64 (-1)] 3)).drew) ∧ (((wa.alloc (.map #[] 0)).alloc (.cells (madeCells #[.slice none 0 0] n.gates.length) 115)).alloc (.cells #[.int .i64 (-1)] 3)).drew.heap[wa.heap.size]? = some (.map #[] 0) ∧ (((wa.alloc (.map #[] 0)).alloc (.cells (madeCells #[.slice none 0 0] n.gates.length) 115)).alloc (.cells #[.int .i64 (-1)] 3)).drew.heap[(wa.heap.size + 1)]? = some (.cells (madeCells #[.slice none 0 0] n.gates.length) 115 (0, 0)) ∧ (((wa.alloc (.map #[] 0)).alloc (.cells (madeCells #[.slice none 0 0] n.gates.length) 115)).alloc (.cells #[.int .i64 (-1)] 3)).drew.heap[(wa.heap.size + 2)]? = some (.cells #[.int .i64 (-1)] 3 (0, 0))) := by
          refine ⟨⟨?_, ?_⟩, ?_, ?_, ?_⟩
          · exact alls_size [(.map #[] 0), (.cells (madeCells #[.slice none 0 0] n.gates.length) 115), (.cells #[.int .i64 (-1)] 3)] wa
          · exact bel_drew (alls_below [(.map #[] 0), (.cells (madeCells #[.slice none 0 0] n.gates.length) 115), (.cells #[.int .i64 (-1)] 3)] wa _ (Nat.le_refl _))
          · exact alls_get [(.map #[] 0), (.cells (madeCells #[.slice none 0 0] n.gates.length) 115), (.cells #[.int .i64 (-1)] 3)] wa 0 _ rfl
          · exact alls_get [(.map #[] 0), (.cells (madeCells #[.slice none 0 0] n.gates.length) 115), (.cells #[.int .i64 (-1)] 3)] wa 1 _ rfl
          · exact alls_get [(.map #[] 0), (.cells (madeCells #[.slice none 0 0] n.gates.length) 115), (.cells #[.int .i64 (-1)] 3)] wa 2 _ rfl
        have HC7 := Lib.hid (repeat_any (wa.heap.size + 2) 1 n.flows.length (-1) (((wa.alloc (.map #[] 0)).alloc (.cells (madeCells #[.slice none 0 0] n.gates.length) 115)).alloc (.cells #[.int .i64 (-1)] 3)).drew (cell_of_row _ _ 0 _ _ _ HW7.out.2.2.2) (by rw [HW7.out.1.1]; omega) hnf)
        have HW8 : Hid (((((wa.alloc (.cells #[.int .i64 (-1)] 3)).alloc (.cells (madeCells #[.slice none 0 0] n.gates.length) 115)).alloc (.map #[] 0)).drew.heap.size = wa.heap.size + 3 ∧ Below wa.heap.size wa (((wa.alloc (.cells #[.int .i64 (-1)] 3)).alloc (.cells (madeCells #[.slice none 0 0] n.gates.length) 115)).alloc (.map #[] 0)).drew) ∧ (((wa.alloc (.cells #[.int .i64 (-1)] 3)).alloc (.cells (madeCells #[.slice none 0 0] n.gates.length) 115)).alloc (.map #[] 0)).drew.heap[wa.heap.size]? = some (.cells #[.int .i64 (-1)] 3 (0, 0)) ∧ (((wa.alloc (.cells #[.int .i64 (-1)] 3)).alloc (.cells (madeCells #[.slice none 0 0] n.gates.length) 115)).alloc (.map #[] 0)).drew.heap[(wa.heap.size + 1)]? = some (.cells (madeCells #[.slice none 0 0] n.gates.length) 115 (0, 0)) ∧ (((wa.alloc (.cells #[.int .i64 (-1)] 3)).alloc (.cells (madeCells #[.slice none 0 0] n.gates.length) 115)).alloc (.map #[] 0)).drew.heap[(wa.heap.size + 2)]? = some (.map #[] 0)) := by
          refine ⟨⟨?_, ?_⟩, ?_, ?_, ?_⟩
          · exact alls_size [(.cells #[.int .i64 (-1)] 3), (.cells (madeCells #[.slice none 0 0] n.gates.length) 115), (.map #[] 0)] wa
          · exact bel_drew (alls_below [(.cells #[.int .i64 (-1)] 3), (.cells (madeCells #[.slice none 0 0] n.gates.length) 115), (.map #[] 0)] wa _ (Nat.le_refl _))
          · exact alls_get [(.cells #[.int .i64 (-1)] 3), (.cells (madeCells #[.slice none 0 0] n.gates.length) 115), (.map #[] 0)] wa 0 _ rfl
          · exact alls_get [(.cells #[.int .i64 (-1)] 3), (.cells (madeCells #[.slice none 0 0] n.gates.length) 115), (.map #[] 0)] wa 1 _ rfl
          · exact alls_get [(.cells #[.int .i64 (-1)] 3), (.cells (madeCells #[.slice none 0 0] n.gates.length) 115), (.map #[] 0)] wa 2 _ rfl
        have HC8 := Lib.hid (repeat_any wa.heap.size 1 n.flows.length (-1) (((wa.alloc (.cells #[.int .i64 (-1)] 3)).alloc (.cells (madeCells #[.slice none 0 0] n.gates.length) 115)).alloc (.map #[] 0)).drew (cell_of_row _ _ 0 _ _ _ HW8.out.2.1) (by rw [HW8.out.1.1]; omega) hnf)
        have HW9 : Hid (((((wa.alloc (.cells (madeCells #[.slice none 0 0] n.gates.length) 115)).alloc (.cells #[.int .i64 (-1)] 3)).alloc (.map #[] 0)).drew.heap.size = wa.heap.size + 3 ∧ Below wa.heap.size wa (((wa.alloc (.cells (madeCells #[.slice none 0 0] n.gates.length) 115)).alloc (.cells #[.int .i64 (-1)] 3)).alloc (.map #[] 0)).drew) ∧ (((wa.alloc (.cells (madeCells #[.slice none 0 0] n.gates.length) 115)).alloc (.cells #[.int .i64 (-1)] 3)).alloc (.map #[] 0)).drew.heap[wa.heap.size]? = some (.cells (madeCells #[.slice none 0 0] n.gates.length) 115 (0, 0)) ∧ (((wa.alloc (.cells (madeCells #[.slice none 0 0] n.gates.length) 115)).alloc (.cells #[.int .i64 (-1)] 3)).alloc (.map #[] 0)).drew.heap[(wa.heap.size + 1)]? = some (.cells #[.int .i64 (-1)] 3 (0, 0)) ∧ (((wa.alloc (.cells (madeCells #[.slice none 0 0] n.gates.length) 115)).alloc (.cells #[.int .i64 (-1)] 3)).alloc (.map #[] 0)).drew.heap[(wa.heap.size + 2)]? = some (.map #[] 0)) := by
          refine ⟨⟨?_, ?_⟩, ?_, ?_, ?_⟩
          · exact alls_size [(.cells (madeCells #[.slice none 0 0] n.gates.length) 115), (.cells #[.int .i64 (-1)] 3), (.map #[] 0)] wa
          · exact bel_drew (alls_below [(.cells (madeCells #[.slice none 0 0] n.gates.length) 115), (.cells #[.int .i64 (-1)] 3), (.map #[] 0)] wa _ (Nat.le_refl _))
          · exact alls_get [(.cells (madeCells #[.slice none 0 0] n.gates.length) 115), (.cells #[.int .i64 (-1)] 3), (.map #[] 0)] wa 0 _ rfl
          · exact alls_get [(.cells (madeCells #[.slice none 0 0] n.gates.length) 115), (.cells #[.int .i64 (-1)] 3), (.map #[] 0)] wa 1 _ rfl
          · exact alls_get [(.cells (madeCells #[.slice none 0 0] n.gates.length) 115), (.cells #[.int .i64 (-1)] 3), (.map #[] 0)] wa 2 _ rfl
        have HC9 := Lib.hid (repeat_any (wa.heap.size + 1) 1 n.flows.length (-1) (((wa.alloc (.cells (madeCells #[.slice none 0 0] n.gates.length) 115)).alloc (.cells #[.int .i64 (-1)] 3)).alloc (.map #[] 0)).drew (cell_of_row _ _ 0 _ _ _ HW9.out.2.2.1) (by rw [HW9.out.1.1]; omega) hnf)
        have HW10 : Hid (((((wa.alloc (.cells (madeCells #[.slice none 0 0] n.gates.length) 115)).alloc (.map #[] 0)).alloc (.cells #[.int .i64 (-1)] 3)).drew.heap.size = wa.heap.size + 3 ∧ Below wa.heap.size wa (((wa.alloc (.cells (madeCells #[.slice none 0 0] n.gates.length) 115)).alloc (.map #[] 0)).alloc (.cells #[.int .i64 (-1)] 3)).drew) ∧ (((wa.alloc (.cells (madeCells #[.slice none 0 0] n.gates.length) 115)).alloc (.map #[] 0)).alloc (.cells #[.int .i64 (-1)] 3)).drew.heap[wa.heap.size]? = some (.cells (madeCells #[.slice none 0 0] n.gates.length) 115 (0, 0)) ∧ (((wa.alloc (.cells (madeCells #[.slice none 0 0] n.gates.length) 115)).alloc (.map #[] 0)).alloc (.cells #[.int .i64 (-1)] 3)).drew.heap[(wa.heap.size + 1)]? = some (.map #[] 0) ∧ (((wa.alloc (.cells (madeCells #[.slice none 0 0] n.gates.length) 115)).alloc (.map #[] 0)).alloc (.cells #[.int .i64 (-1)] 3)).drew.heap[(wa.heap.size + 2)]? = some (.cells #[.int .i64 (-1)] 3 (0, 0))) := by
          refine ⟨⟨?_, ?_⟩, ?_, ?_, ?_⟩
          · exact alls_size [(.cells (madeCells #[.slice none 0 0] n.gates.length) 115), (.map #[] 0), (.cells #[.int .i64 (-1)] 3)] wa
          · exact bel_drew (alls_below [(.cells (madeCells #[.slice none 0 0] n.gates.length) 115), (.map #[] 0), (.cells #[.int .i64 (-1)] 3)] wa _ (Nat.le_refl _))
          · exact alls_get [(.cells (madeCells #[.slice none 0 0] n.gates.length) 115), (.map #[] 0), (.cells #[.int .i64 (-1)] 3)] wa 0 _ rfl
          · exact alls_get [(.cells (madeCells #[.slice none 0 0] n.gates.length) 115), (.map #[] 0), (.cells #[.int .i64 (-1)] 3)] wa 1 _ rfl
          · exact alls_get [(.cells (madeCells #[.slice none 0 0] n.gates.length) 115), (.map #[] 0), (.cells #[.int .i64 (-1)] 3)] wa 2 _ rfl
        have HC10 := Lib.hid (repeat_any (wa.heap.size + 2) 1 n.flows.length (-1) (((wa.alloc (.cells (madeCells #[.slice none 0 0] n.gates.length) 115)).alloc (.map #[] 0)).alloc (.cells #[.int .i64 (-1)] 3)).drew (cell_of_row _ _ 0 _ _ _ HW10.out.2.2.2) (by rw [HW10.out.1.1]; omega) hnf)
        go_cut [7] (fun v wx => ∃ pb, v = .pointer (some ⟨pb, 0, none⟩) ∧ Hid (PostN (w.heap.size + 1) A1 c1 A2 c2 n wa pb wx))
        case first =>
          go_region_held3 (fun W => W.cell? ⟨w.heap.size, 0, none⟩ = some (.slice A1 n.gates.length c1) ∧ W.cell? ⟨w.heap.size, 1, none⟩ = some (.slice A2 n.flows.length c2)) (first | (refine HXS.out _ ?_; (repeat' (first | assumption | exact HB6.out | exact HBB.out | apply bel_alloc | apply bel_drew)); done) | fail) ((first
            | (go_at_call 70; (with_reducible refine HC0.out.mono ?_); rintro e w6 ⟨g6, rfl, hg6, ho6, hb6⟩; have HO6 := Lib.hid ho6; have HB6 : Hid (Below wa.heap.size wa w6) := HW0.out.1.2.trans (hb6.mono (by rw [HW0.out.1.1]; omega)); have HG6 : Hid (wa.heap.size + 1 ≤ g6) := (by rw [HW0.out.1.1] at hg6; exact hg6); clear hg6 ho6 hb6)
            | (go_at_call 70; (with_reducible refine HC1.out.mono ?_); rintro e w6 ⟨g6, rfl, hg6, ho6, hb6⟩; have HO6 := Lib.hid ho6; have HB6 : Hid (Below wa.heap.size wa w6) := HW1.out.1.2.trans (hb6.mono (by rw [HW1.out.1.1]; omega)); have HG6 : Hid (wa.heap.size + 2 ≤ g6) := (by rw [HW1.out.1.1] at hg6; exact hg6); have HM6 : Hid (wa.heap.size + 1 < wa.heap.size + 2 ∧ w6.heap[(wa.heap.size + 1)]? = some (.map #[] 0)) := ⟨by omega, (hb6.block _ (by rw [HW1.out.1.1]; omega)).trans HW1.out.2.2⟩; clear hg6 ho6 hb6)
            | (go_at_call 70; (with_reducible refine HC2.out.mono ?_); rintro e w6 ⟨g6, rfl, hg6, ho6, hb6⟩; have HO6 := Lib.hid ho6; have HB6 : Hid (Below wa.heap.size wa w6) := HW2.out.1.2.trans (hb6.mono (by rw [HW2.out.1.1]; omega)); have HG6 : Hid (wa.heap.size + 2 ≤ g6) := (by rw [HW2.out.1.1] at hg6; exact hg6); have HM6 : Hid (wa.heap.size + 0 < wa.heap.size + 2 ∧ w6.heap[wa.heap.size]? = some (.map #[] 0)) := ⟨by omega, (hb6.block _ (by rw [HW2.out.1.1]; omega)).trans HW2.out.2.1⟩; clear hg6 ho6 hb6)
            | (go_at_call 70; (with_reducible refine HC3.out.mono ?_); rintro e w6 ⟨g6, rfl, hg6, ho6, hb6⟩; have HO6 := Lib.hid ho6; have HB6 : Hid (Below wa.heap.size wa w6) := HW3.out.1.2.trans (hb6.mono (by rw [HW3.out.1.1]; omega)); have HG6 : Hid (wa.heap.size + 2 ≤ g6) := (by rw [HW3.out.1.1] at hg6; exact hg6); have HL6 : Hid (wa.heap.size + 1 < wa.heap.size + 2 ∧ w6.heap[(wa.heap.size + 1)]? = some (.cells (madeCells #[.slice none 0 0] n.gates.length) 115 (0, 0))) := ⟨by omega, (hb6.block _ (by rw [HW3.out.1.1]; omega)).trans HW3.out.2.2⟩; clear hg6 ho6 hb6)
            | (go_at_call 70; (with_reducible refine HC4.out.mono ?_); rintro e w6 ⟨g6, rfl, hg6, ho6, hb6⟩; have HO6 := Lib.hid ho6; have HB6 : Hid (Below wa.heap.size wa w6) := HW4.out.1.2.trans (hb6.mono (by rw [HW4.out.1.1]; omega)); have HG6 : Hid (wa.heap.size + 2 ≤ g6) := (by rw [HW4.out.1.1] at hg6; exact hg6); have HL6 : Hid (wa.heap.size + 0 < wa.heap.size + 2 ∧ w6.heap[wa.heap.size]? = some (.cells (madeCells #[.slice none 0 0] n.gates.length) 115 (0, 0))) := ⟨by omega, (hb6.block _ (by rw [HW4.out.1.1]; omega)).trans HW4.out.2.1⟩; clear hg6 ho6 hb6)
            | (go_at_call 70; (with_reducible refine HC5.out.mono ?_); rintro e w6 ⟨g6, rfl, hg6, ho6, hb6⟩; have HO6 := Lib.hid ho6; have HB6 : Hid (Below wa.heap.size wa w6) := HW5.out.1.2.trans (hb6.mono (by rw [HW5.out.1.1]; omega)); have HG6 : Hid (wa.heap.size + 3 ≤ g6) := (by rw [HW5.out.1.1] at hg6; exact hg6); have HM6 : Hid (wa.heap.size + 1 < wa.heap.size + 3 ∧ w6.heap[(wa.heap.size + 1)]? = some (.map #[] 0)) := ⟨by omega, (hb6.block _ (by rw [HW5.out.1.1]; omega)).trans HW5.out.2.2.1⟩; have HL6 : Hid (wa.heap.size + 2 < wa.heap.size + 3 ∧ w6.heap[(wa.heap.size + 2)]? = some (.cells (madeCells #[.slice none 0 0] n.gates.length) 115 (0, 0))) := ⟨by omega, (hb6.block _ (by rw [HW5.out.1.1]; omega)).trans HW5.out.2.2.2⟩; clear hg6 ho6 hb6)
            | (go_at_call 70; (with_reducible refine HC6.out.mono ?_); rintro e w6 ⟨g6, rfl, hg6, ho6, hb6⟩; have HO6 := Lib.hid ho6; have HB6 : Hid (Below wa.heap.size wa w6) := HW6.out.1.2.trans (hb6.mono (by rw [HW6.out.1.1]; omega)); have HG6 : Hid (wa.heap.size + 3 ≤ g6) := (by rw [HW6.out.1.1] at hg6; exact hg6); have HM6 : Hid (wa.heap.size + 0 < wa.heap.size + 3 ∧ w6.heap[wa.heap.size]? = some (.map #[] 0)) := ⟨by omega, (hb6.block _ (by rw [HW6.out.1.1]; omega)).trans HW6.out.2.1⟩; have HL6 : Hid (wa.heap.size + 2 < wa.heap.size + 3 ∧ w6.heap[(wa.heap.size + 2)]? = some (.cells (madeCells #[.slice none 0 0] n.gates.length) 115 (0, 0))) := ⟨by omega, (hb6.block _ (by rw [HW6.out.1.1]; omega)).trans HW6.out.2.2.2⟩; clear hg6 ho6 hb6)
            | (go_at_call 70; (with_reducible refine HC7.out.mono ?_); rintro e w6 ⟨g6, rfl, hg6, ho6, hb6⟩; have HO6 := Lib.hid ho6; have HB6 : Hid (Below wa.heap.size wa w6) := HW7.out.1.2.trans (hb6.mono (by rw [HW7.out.1.1]; omega)); have HG6 : Hid (wa.heap.size + 3 ≤ g6) := (by rw [HW7.out.1.1] at hg6; exact hg6); have HM6 : Hid (wa.heap.size + 0 < wa.heap.size + 3 ∧ w6.heap[wa.heap.size]? = some (.map #[] 0)) := ⟨by omega, (hb6.block _ (by rw [HW7.out.1.1]; omega)).trans HW7.out.2.1⟩; have HL6 : Hid (wa.heap.size + 1 < wa.heap.size + 3 ∧ w6.heap[(wa.heap.size + 1)]? = some (.cells (madeCells #[.slice none 0 0] n.gates.length) 115 (0, 0))) := ⟨by omega, (hb6.block _ (by rw [HW7.out.1.1]; omega)).trans HW7.out.2.2.1⟩; clear hg6 ho6 hb6)
            | (go_at_call 70; (with_reducible refine HC8.out.mono ?_); rintro e w6 ⟨g6, rfl, hg6, ho6, hb6⟩; have HO6 := Lib.hid ho6; have HB6 : Hid (Below wa.heap.size wa w6) := HW8.out.1.2.trans (hb6.mono (by rw [HW8.out.1.1]; omega)); have HG6 : Hid (wa.heap.size + 3 ≤ g6) := (by rw [HW8.out.1.1] at hg6; exact hg6); have HM6 : Hid (wa.heap.size + 2 < wa.heap.size + 3 ∧ w6.heap[(wa.heap.size + 2)]? = some (.map #[] 0)) := ⟨by omega, (hb6.block _ (by rw [HW8.out.1.1]; omega)).trans HW8.out.2.2.2⟩; have HL6 : Hid (wa.heap.size + 1 < wa.heap.size + 3 ∧ w6.heap[(wa.heap.size + 1)]? = some (.cells (madeCells #[.slice none 0 0] n.gates.length) 115 (0, 0))) := ⟨by omega, (hb6.block _ (by rw [HW8.out.1.1]; omega)).trans HW8.out.2.2.1⟩; clear hg6 ho6 hb6)
            | (go_at_call 70; (with_reducible refine HC9.out.mono ?_); rintro e w6 ⟨g6, rfl, hg6, ho6, hb6⟩; have HO6 := Lib.hid ho6; have HB6 : Hid (Below wa.heap.size wa w6) := HW9.out.1.2.trans (hb6.mono (by rw [HW9.out.1.1]; omega)); have HG6 : Hid (wa.heap.size + 3 ≤ g6) := (by rw [HW9.out.1.1] at hg6; exact hg6); have HM6 : Hid (wa.heap.size + 2 < wa.heap.size + 3 ∧ w6.heap[(wa.heap.size + 2)]? = some (.map #[] 0)) := ⟨by omega, (hb6.block _ (by rw [HW9.out.1.1]; omega)).trans HW9.out.2.2.2⟩; have HL6 : Hid (wa.heap.size + 0 < wa.heap.size + 3 ∧ w6.heap[wa.heap.size]? = some (.cells (madeCells #[.slice none 0 0] n.gates.length) 115 (0, 0))) := ⟨by omega, (hb6.block _ (by rw [HW9.out.1.1]; omega)).trans HW9.out.2.1⟩; clear hg6 ho6 hb6)
            | (go_at_call 70; (with_reducible refine HC10.out.mono ?_); rintro e w6 ⟨g6, rfl, hg6, ho6, hb6⟩; have HO6 := Lib.hid ho6; have HB6 : Hid (Below wa.heap.size wa w6) := HW10.out.1.2.trans (hb6.mono (by rw [HW10.out.1.1]; omega)); have HG6 : Hid (wa.heap.size + 3 ≤ g6) := (by rw [HW10.out.1.1] at hg6; exact hg6); have HM6 : Hid (wa.heap.size + 1 < wa.heap.size + 3 ∧ w6.heap[(wa.heap.size + 1)]? = some (.map #[] 0)) := ⟨by omega, (hb6.block _ (by rw [HW10.out.1.1]; omega)).trans HW10.out.2.2.1⟩; have HL6 : Hid (wa.heap.size + 0 < wa.heap.size + 3 ∧ w6.heap[wa.heap.size]? = some (.cells (madeCells #[.slice none 0 0] n.gates.length) 115 (0, 0))) := ⟨by omega, (hb6.block _ (by rw [HW10.out.1.1]; omega)).trans HW10.out.2.1⟩; clear hg6 ho6 hb6)
            | fail))
          all_goals
            go_wp2_with fail
            go_meet
          all_goals
            have hgl6 := HO6.out.lt
            have hg6 := HG6.out
            have hb6 := HB6.out.size
            have hxb := HBX.out
          all_goals (first
            | exact ⟨_, rfl, post_n HM6.out.2 HL6.out.2 HO6.out (by have := HM6.out.1; have := HL6.out.1; omega) (by omega) (HNA.out _ HB6.out) HB6.out rfl⟩
            | (have hml := MapH.lt (mapH_of HM6.out.2); exact ⟨_, rfl, post_n (W := w6.alloc (.cells (madeCells #[.slice none 0 0] n.gates.length) 115)) ((Below.heap_alloc w6 _ _ hml).trans HM6.out.2) (heap_alloc_new w6 _) (HO6.out.alloc _) (by have := HM6.out.1; omega) (by omega) (HNA.out _ (bel_alloc HB6.out)) (bel_alloc HB6.out) (World.size_alloc _ _).symm⟩)
            | (have hll := OwnF.lt (ownL_of HL6.out.2); exact ⟨_, rfl, post_n (W := w6.alloc (.map #[] 0)) (heap_alloc_new w6 _) ((Below.heap_alloc w6 _ _ hll).trans HL6.out.2) (HO6.out.alloc _) (by have := HL6.out.1; omega) (by omega) (HNA.out _ (bel_alloc HB6.out)) (bel_alloc HB6.out) (World.size_alloc _ _).symm⟩)
            | (have h1 := heap_alloc_new (w6.alloc (.map #[] 0)) (.cells (madeCells #[.slice none 0 0] n.gates.length) 115); rw [World.size_alloc] at h1; exact ⟨_, rfl, post_n (W := (w6.alloc (.map #[] 0)).alloc (.cells (madeCells #[.slice none 0 0] n.gates.length) 115)) ((Below.heap_alloc (w6.alloc (.map #[] 0)) _ _ (by simp)).trans (heap_alloc_new w6 _)) h1 ((HO6.out.alloc _).alloc _) (by omega) (by omega) (HNA.out _ (bel_alloc (bel_alloc HB6.out))) (bel_alloc (bel_alloc HB6.out)) (by rw [World.size_alloc, World.size_alloc])⟩)
            | (have h1 := heap_alloc_new (w6.alloc (.cells (madeCells #[.slice none 0 0] n.gates.length) 115)) (.map #[] 0); rw [World.size_alloc] at h1; exact ⟨_, rfl, post_n (W := (w6.alloc (.cells (madeCells #[.slice none 0 0] n.gates.length) 115)).alloc (.map #[] 0)) h1 ((Below.heap_alloc (w6.alloc (.cells (madeCells #[.slice none 0 0] n.gates.length) 115)) _ _ (by simp)).trans (heap_alloc_new w6 _)) ((HO6.out.alloc _).alloc _) (by omega) (by omega) (HNA.out _ (bel_alloc (bel_alloc HB6.out))) (bel_alloc (bel_alloc HB6.out)) (by rw [World.size_alloc, World.size_alloc])⟩))
        case rest =>
          obtain ⟨pb, rfl, HPN⟩ := hcut
          rename World => wc
          obtain ⟨mb, lb, ob, base, hPA, hbc⟩ := HPN.out
          have hPA : PostA (⟨w.heap.size + 1, pb, mb, lb, ob, base, A1, c1, A2, c2, n⟩ : PPar) wc 0 (fun _ => curL) (fun _ => nilS) (fun _ => []) (motW (startW tr 0)) := hPA
          have HPC : Hid (PostR (⟨w.heap.size + 1, pb, mb, lb, ob, base, A1, c1, A2, c2, n⟩ : PPar) wc 0 (fun _ => curL) (motW (startW tr 0))) := ⟨0, _, _, Nat.le_refl _, hPA⟩
          have HBC : Hid (Below (w.heap.size + 1) wa wc) := hbc.mono hbx
          have HOB : Hid (∀ W, Below (w.heap.size + 1) wa W → (W.cell? ⟨w.heap.size, 0, none⟩ = some (.slice A1 n.gates.length c1) ∧ W.cell? ⟨w.heap.size, 1, none⟩ = some (.slice A2 n.flows.length c2)) ∧ RowsT W w.heap.size O tr ∧ Below w.heap.size w W) := fun W hW => by
            have h1 := HE3.out.old.trans (hW.mono (Nat.le_succ _))
            exact ⟨⟨(bcell hW _ _ (Nat.lt_succ_self _)).trans HE3.out.c0, (bcell hW _ _ (Nat.lt_succ_self _)).trans HE3.out.c1⟩, HT.out W h1, h1⟩
          have HMUC := Lib.hid hmu
          have HVV := Lib.hid hv
          have hng8 := hmu.2
          have hnf40 := hnl.2
          have htr40 : tr.length ≤ 40 := by rw [HLN.out]; omega
          clear hPA hbc HPN hmm hms HXS HNA HBB hmu hv HW0 HC0 HW1 HC1 HW2 HC2 HW3 HC3 HW4 HC4 HW5 HC5 HW6 HC6 HW7 HC7 HW8 HC8 HW9 HC9 HW10 HC10
          go_wp2_with fail
          go_loopw [44] (fun vi wr => ∃ (i : Nat) (ow : Nat → Int), vi = .int .i64 i ∧ i ≤ tr.length ∧ Hid (PostR (⟨w.heap.size + 1, pb, mb, lb, ob, base, A1, c1, A2, c2, n⟩ : PPar) wr (64 * i) ow (motW (startW tr i))) ∧ Hid (Below (w.heap.size + 1) wa wr)) (fun vi _ => tr.length - (intOf vi).toNat)
          case atStart => exact ⟨0, _, rfl, Nat.zero_le _, HPC, HBC⟩
          case round =>
            clear HPC HBC
            obtain ⟨i, ow, rfl, hi, HPR, HBW⟩ := hrel
            rename World => wr
            by_cases hit : i < tr.length
            · obtain ⟨⟨_, _⟩, hTR, _⟩ := HOB.out wr HBW.out
              obtain ⟨l, rb, ro, Ap, cp, hl, hO, hrb, z0, hcp, hI⟩ := hTR.at_ hit
              subst hO
              have HLW := Lib.hid (lawful_at HQ.out hl)
              have hll := HLW.out.1
              have HGL : Hid (tr.getD i [] = l) := by show _ = _; rw [List.getD_eq_getElem?_getD, hl]; rfl
              have HIB : Hid (∀ W, Below (w.heap.size + 1) wr W → IntsA W w.heap.size Ap l) := fun W hW => hI.below (hW.mono (Nat.le_succ _)) (Nat.le_refl _)
              have HS0 : Hid (PostR (⟨w.heap.size + 1, pb, mb, lb, ob, base, A1, c1, A2, c2, n⟩ : PPar) wr (64 * i + 0) ow (motW (startW tr i ++ rowM i l 0))) := by
                show PostR _ _ _ _ _
                rw [show rowM i l 0 = [] from rfl, List.append_nil]
                exact HPR.out
              have HB0 : Hid (Below (w.heap.size + 1) wr wr) := Below.refl _ _
              clear hl hI hTR
              go_wp2_with fail
              go_loopw [51] (fun vk wx => ∃ (k : Nat) (ow : Nat → Int), vk = .int .i64 k ∧ k ≤ l.length ∧ Hid (PostR (⟨w.heap.size + 1, pb, mb, lb, ob, base, A1, c1, A2, c2, n⟩ : PPar) wx (64 * i + k) ow (motW (startW tr i ++ rowM i l k))) ∧ Hid (Below (w.heap.size + 1) wr wx)) (fun vk _ => l.length - (intOf vk).toNat)
              case atStart => exact ⟨0, ow, rfl, Nat.zero_le _, HS0, HB0⟩
              case round =>
                clear HS0 HB0 z0
                obtain ⟨k, ow2, rfl, hk, HPS, HBX2⟩ := hrel
                rename World => wx
                by_cases hkl : k < l.length
                · obtain ⟨ab, ao, hA, _, y0⟩ := (HIB.out wx HBX2.out).at_ hkl
                  subst hA
                  obtain ⟨b, hb⟩ : ∃ b, l.getD k 0 = b := ⟨_, rfl⟩
                  have hbb : 0 ≤ b ∧ b ≤ 1000 := by
                    rw [← hb, List.getD_eq_getElem?_getD, List.getElem?_eq_getElem hkl]
                    exact HLW.out.2 _ (List.getElem_mem hkl)
                  rw [hb] at y0
                  have HRS : Hid (rowM i l (k + 1) = rowM i l k ++ if 0 < b then [((k : Int), (⟨(i : Int), 0, (k : Int), b⟩ : MPkt))] else []) := by show _ = _; rw [rowM_succ, hb]
                  clear hb
                  by_cases hbp : 0 < b
                  · have g3 : decide (b > 0) = true := decide_eq_true hbp
                    have HR1 : Hid (startW tr i ++ rowM i l (k + 1) = (startW tr i ++ rowM i l k) ++ [((k : Int), (⟨(i : Int), 0, (k : Int), b⟩ : MPkt))]) := by
                      show _ = _
                      rw [HRS.out, if_pos hbp, List.append_assoc]
                    have HWB : Hid ((startW tr i ++ rowM i l k).length ≤ 64 * 41 ∧ 0 ≤ totW (startW tr i ++ rowM i l k) ∧ totW (startW tr i ++ rowM i l k) ≤ 2700000) := by
                      have h1 := startW_ok2 HQ.out i (by omega)
                      have h2 := rowM_ok (i := i) HLW.out.2 k
                      have h3 := totW_bd (W := startW tr i ++ rowM i l k) fun p hp => by
                        rcases List.mem_append.1 hp with hp | hp
                        · exact h1.2 p hp
                        · exact h2.2 p hp
                      rw [List.length_append] at h3 ⊢
                      have h4 := h1.1
                      have h5 := h2.1
                      show _ ∧ _ ∧ _
                      omega
                    obtain ⟨WY, hWY⟩ : ∃ WY, startW tr i ++ rowM i l k = WY := ⟨_, rfl⟩
                    rw [hWY] at HR1 HWB HPS
                    obtain ⟨nm, H2, l2, hnm, hPA⟩ := HPS.out
                    obtain ⟨TT, hTT⟩ : ∃ TT, totW WY = TT := ⟨_, rfl⟩
                    obtain ⟨hwl, ht0, ht1⟩ := HWB.out
                    rw [hTT] at ht0 ht1
                    have HTT := Lib.hid hTT
                    obtain ⟨VA, vc, hVA, hvc⟩ := (hPA.fam (k : Int)).form
                    have HVA := Lib.hid hVA
                    have hl2 : (l2 (k : Int)).length ≤ 1000000 := by
                      have h1 := (hPA.wk (k : Int) (by omega)).len
                      have h2 : (atW (k : Int) (motW WY).way).length ≤ (motW WY).way.length := by unfold atW; rw [List.length_map]; exact List.length_filter_le _ _
                      have h3 : (motW WY).way.length = WY.length := rfl
                      omega
                    have hpo := hPA.ord
                    have hpl : pb < base := hpo.l1
                    have hpm : mb < base := hpo.l2
                    have hpbm : mb ≠ pb := hpo.n1.symm
                    have hps : base ≤ wx.heap.size := hPA.size
                    have hpbw : pb < wx.heap.size := by omega
                    have hpmw : mb < wx.heap.size := by omega
                    have hn2 : nm ≤ 1000000000 := by omega
                    have a2 : wx.cell? ⟨pb, 2, none⟩ = some (.map (some mb)) := hPA.cells.2.2.1
                    have HPB : Hid (PostA (⟨w.heap.size + 1, pb, mb, lb, ob, base, A1, c1, A2, c2, n⟩ : PPar) (wx.drew.alloc (.cells #[.int .i64 (i : Int), .int .i64 0, .int .i64 (k : Int), .int .i64 b] 117)) nm ow2 H2 l2 (motW WY)) := hPA.drew.alloc _
                    have HNB : Hid (∀ j, j < 4 → (wx.drew.alloc (.cells #[.int .i64 (i : Int), .int .i64 0, .int .i64 (k : Int), .int .i64 b] 117)).cell? ⟨wx.drew.heap.size, j, none⟩ = some (pkAt ⟨(i : Int), 0, (k : Int), b⟩ j)) := fun j hj => by
                      rw [newcell]
                      unfold pkAt
                      match j, hj with
                      | 0, _ => rfl
                      | 1, _ => rfl
                      | 2, _ => rfl
                      | 3, _ => rfl
                    have HS : Hid (∀ w' : World, w'.heap[pb]? = wx.heap[pb]? → w'.cell? ⟨pb, 2, none⟩ = some (.map (some mb))) := fun w' hw => (World.cell?_of_block (a := ⟨pb, 2, none⟩) hw).trans a2
                    have HS2 : Hid ((wx.drew.alloc (.cells #[.int .i64 (i : Int), .int .i64 0, .int .i64 (k : Int), .int .i64 b] 117)).heap[pb]? = wx.heap[pb]?) := Below.heap_alloc wx.drew _ _ hpbw
                    have hlk1 : (Instr.lookup 111 (.map (some mb)) (.int .i64 (k : Int)) false).run Try.prog wx.drew = .ok (.slice VA (l2 (k : Int)).length vc) wx.drew := by rw [← HVA.out]; exact (hPA.map.moved (w' := wx.drew) rfl).look (by omega) (by omega)
                    have hlk3 : (Instr.lookup 111 (.map (some mb)) (.int .i64 (k : Int)) false).run Try.prog (wx.alloc (.cells #[.int .i64 (i : Int), .int .i64 0, .int .i64 (k : Int), .int .i64 b] 117)).drew = .ok (.slice VA (l2 (k : Int)).length vc) (wx.alloc (.cells #[.int .i64 (i : Int), .int .i64 0, .int .i64 (k : Int), .int .i64 b] 117)).drew := by rw [← HVA.out]; exact (HPB.out.map.moved (w' := (wx.alloc (.cells #[.int .i64 (i : Int), .int .i64 0, .int .i64 (k : Int), .int .i64 b] 117)).drew) rfl).look (by omega) (by omega)
                    have hlk2 : (Instr.lookup 111 (.map (some mb)) (.int .i64 (k : Int)) false).run Try.prog (wx.drew.alloc (.cells #[.int .i64 (i : Int), .int .i64 0, .int .i64 (k : Int), .int .i64 b] 117)) = .ok (.slice VA (l2 (k : Int)).length vc) (wx.drew.alloc (.cells #[.int .i64 (i : Int), .int .i64 0, .int .i64 (k : Int), .int .i64 b] 117)) := by rw [← HVA.out]; exact HPB.out.map.look (by omega) (by omega)
                    have HNMK := Lib.hid hnm
                    clear hPA hVA hWY hTT hnm
                    go_upto_region 14 with fail
                    go_region_held3 (fun w' => w'.cell? ⟨pb, 2, none⟩ = some (.map (some mb))) (first | go_keep | exact HS.out _ rfl | exact HS.out _ HS2.out | exact HS.out _ HS7.out | exact HS.out _ HS8.out) (first
                      | (refine step_app_pk _ (by rfl) _ _ (by rfl) HPB.out.fam (k : Int) (by rw [HVA.out]; rfl) wx.drew.heap.size 1 (by rfl) ⟨(i : Int), 0, (k : Int), b⟩ HNB.out hl2 (by simp; omega) ?_; intro gx ox cx w7 hap; have HAP := Lib.hid hap; have HS7 : Hid (w7.heap[pb]? = wx.heap[pb]?) := (hap.old (by simp; omega) hpl).trans HS2.out; have HMS : Hid (MapH w7 mb nm H2) := HPB.out.map.moved (hap.old (by simp; omega) hpm); have hs7 : wx.heap.size ≤ w7.heap.size := (by obtain ⟨_, _, _, _, _, hg, _⟩ := hap; have := hg.size; simp at this; omega); obtain ⟨w8, hr8, hm8, hg8⟩ := HMS.out.store (t := (k : Int)) hn2 (by omega) (by omega) (.slice (some ⟨gx, ox, none⟩) ((l2 (k : Int)).length + 1) cx); have HM8 := Lib.hid hm8; have HG8 := Lib.hid hg8; have HS8 : Hid (w8.heap[pb]? = wx.heap[pb]?) := (hg8.block _ (by omega) (fun e => hpbm (Option.some.inj e).symm)).trans HS7.out; clear hm8 hg8; clear hap)
                      | fail)
                    all_goals
                      obtain ⟨own8, H8, l8, hP8, hl8, ho8, hb8, hs8, hk8⟩ := send_way HPB.out (by omega) HAP.out HM8.out HG8.out
                      have hP8 := Lib.hid hP8
                      have HBY : Hid (Below (w.heap.size + 1) wr w8) := (HBX2.out.drew.alloc (by have := hpo.b1; show w.heap.size + 1 ≤ wx.heap.size; have h1 : w.heap.size + 1 ≤ pb := hpo.b1; omega) _).trans hb8
                      have c4 : w8.cell? ⟨pb, 4, none⟩ = some (.int .i64 TT) := by rw [← HTT.out]; exact hP8.out.cells.2.2.2.2.1
                      have f4 : w8.frozen? ⟨pb, 4, none⟩ = false := hP8.out.cells.2.2.2.2.2.2
                      have HP9 : Hid (PostR (⟨w.heap.size + 1, pb, mb, lb, ob, base, A1, c1, A2, c2, n⟩ : PPar) (w8.setCell ⟨pb, 4, none⟩ (.int .i64 (TT + b))) (64 * i + (k + 1)) own8 (motW (WY ++ [((k : Int), ⟨(i : Int), 0, (k : Int), b⟩)]))) := by
                        have h1 := hP8.out.setLeft (TT + b)
                        rw [← HTT.out, motW_add WY (k : Int) ⟨(i : Int), 0, (k : Int), b⟩] at h1
                        rw [← HTT.out]
                        exact ⟨nm + 1, H8, l8, by have := HNMK.out; omega, h1⟩
                      have HB9 : Hid (Below (w.heap.size + 1) wr (w8.setCell ⟨pb, 4, none⟩ (.int .i64 (TT + b)))) := HBY.out.setCell (p := ⟨pb, 4, none⟩) hpo.b1 _
                      clear hl8 ho8 hb8 hs8 hk8 hlk1 hlk2 hlk3 hr8
                      go_wp2_with fail
                      exact ⟨⟨k + 1, own8, by go_num, by omega, by rw [HR1.out]; exact HP9, HB9⟩, by simp [intOf]; omega⟩
                  · have g3 : decide (b > 0) = false := decide_eq_false hbp
                    have HR1 : Hid (startW tr i ++ rowM i l (k + 1) = startW tr i ++ rowM i l k) := by
                      show _ = _
                      rw [HRS.out, if_neg hbp, List.append_nil]
                    go_wp2_with fail
                    go_roundw
                    case rel => exact ⟨k + 1, ow2, by go_num, by omega, by rw [HR1.out]; exact HPS.out.mono (by omega), HBX2⟩
                    case measure => simp [intOf]; omega
                · obtain rfl : k = l.length := by omega
                  have HEX : Hid (PostR (⟨w.heap.size + 1, pb, mb, lb, ob, base, A1, c1, A2, c2, n⟩ : PPar) wx (64 * (i + 1)) ow2 (motW (startW tr (i + 1)))) := by
                    show PostR _ _ _ _ _
                    rw [startW_succ, HGL.out]
                    exact HPS.out.mono (by omega)
                  have HBE : Hid (Below (w.heap.size + 1) wa wx) := HBW.out.trans HBX2.out
                  go_wp2_with fail
                  go_roundw
                  case rel => exact ⟨i + 1, ow2, by go_num, by omega, HEX, HBE⟩
                  case measure => simp [intOf]; omega
            · obtain rfl : i = tr.length := by omega
              have HINV : Hid (InvM n 0 (startM tr)) := startM_inv HQ.out HLN.out HMUC.out.1
              have HP0 : Hid (PostR (⟨w.heap.size + 1, pb, mb, lb, ob, base, A1, c1, A2, c2, n⟩ : PPar) wr (6000 + 80000 * 0) ow (startM tr)) := HPR.out.mono (by omega)
              clear HPR HT
              go_wp2_with fail
              go_loopw [12] (fun vt wx => ∃ (t : Nat) (s : Mot) (ow : Nat → Int), vt = .int .i64 t ∧ t ≤ 10001 ∧ Hid (PostR (⟨w.heap.size + 1, pb, mb, lb, ob, base, A1, c1, A2, c2, n⟩ : PPar) wx (6000 + 80000 * t) ow s) ∧ Hid (InvM n t s) ∧ Hid (runM n 10001 (startM tr) = runM n (10001 - t) s) ∧ Hid (Below (w.heap.size + 1) wa wx)) (fun vt _ => 10001 - (intOf vt).toNat)
              case atStart => exact ⟨0, startM tr, ow, rfl, by omega, HP0, HINV, (by show _ = _; rfl), HBW⟩
              case round =>
                clear HP0 HINV HBW
                obtain ⟨t, s, ow, rfl, ht, HPS, HINV, HRUN, HBW⟩ := hrel
                rename World => wx
                obtain ⟨sl, hsl⟩ : ∃ sl, s.left = sl := ⟨_, rfl⟩
                have HSL := Lib.hid hsl
                have c4 : wx.cell? ⟨pb, 4, none⟩ = some (.int .i64 sl) := by
                  obtain ⟨nm, H2, l2, hnm, hPA⟩ := HPS.out
                  rw [← hsl]
                  exact hPA.cells.2.2.2.2.1
                clear hsl
                by_cases hbusy : 0 < sl
                · have g3 : decide (sl > 0) = true := decide_eq_true hbusy
                  by_cases ht1 : t ≤ 10000
                  · have g4 : decide ((t : Int) > 10000) = false := decide_eq_false (by omega)
                    have HCOME := Lib.hid (come_any (p := (⟨w.heap.size + 1, pb, mb, lb, ob, base, A1, c1, A2, c2, n⟩ : PPar)) (t : Int) wx (6000 + 80000 * t) ow s HPS.out HVV.out HINV.out (by omega) (by omega))
                    have HIC : Hid (InvM n ((t : Int) + 1) (comeM n t s)) := HINV.out.come HVV.out (by omega) (by omega)
                    have HRN : Hid (runM n 10001 (startM tr) = runM n (10001 - (t + 1)) (tickM n t s)) := by
                      show _ = _
                      rw [HRUN.out, runM_go n ht1 (by rw [HSL.out]; exact hbusy)]
                    go_upto_region 24 with (go_at_call 90; refine HCOME.out.mono ?_; rintro e w4 ⟨rfl, ⟨ow4, hp4⟩, hb4⟩; have HP4 := Lib.hid hp4; have HB4 : Hid (Below (w.heap.size + 1) wa w4) := HBW.out.trans hb4; clear hp4 hb4)
                    obtain ⟨⟨b0, b1⟩, _, _⟩ := HOB.out w4 HB4.out
                    have HS4 : Hid (PostR (⟨w.heap.size + 1, pb, mb, lb, ob, base, A1, c1, A2, c2, n⟩ : PPar) w4 (6000 + 80000 * t + 10000 * 0) ow4 (sendsM n t (comeM n t s) 0)) := HP4.out
                    clear HCOME HP4 c4
                    go_wp2_with fail
                    clear b0 b1
                    go_loopw [100] (fun vk wy => ∃ (k : Nat) (ow : Nat → Int), vk = .int .i64 k ∧ k ≤ n.gates.length ∧ Hid (PostR (⟨w.heap.size + 1, pb, mb, lb, ob, base, A1, c1, A2, c2, n⟩ : PPar) wy (6000 + 80000 * t + 10000 * k) ow (sendsM n t (comeM n t s) k)) ∧ Hid (Below (w.heap.size + 1) wa wy)) (fun vk _ => n.gates.length - (intOf vk).toNat)
                    case atStart => exact ⟨0, ow4, rfl, Nat.zero_le _, HS4, HB4⟩
                    case round =>
                      clear HS4 HB4
                      obtain ⟨k, ow5, rfl, hk, HPK, HBK⟩ := hrel
                      rename World => wy
                      by_cases hkg : k < n.gates.length
                      · have HSEND := Lib.hid (send_any (p := (⟨w.heap.size + 1, pb, mb, lb, ob, base, A1, c1, A2, c2, n⟩ : PPar)) k (t : Int) wy (6000 + 80000 * t + 10000 * k) ow5 (sendsM n t (comeM n t s) k) HPK.out (by omega) HVV.out (HIC.out.sends HVV.out (by omega) (by omega) k hk) hkg (by omega) (by omega))
                        go_wp2_with (go_at_call 91; refine HSEND.out.mono ?_; rintro e w5 ⟨rfl, ⟨ow6, hp5⟩, hb5⟩; have HP5 := Lib.hid hp5; have HB5 : Hid (Below (w.heap.size + 1) wa w5) := HBK.out.trans hb5; clear hp5 hb5)
                        go_roundw
                        case rel => exact ⟨k + 1, ow6, by go_num, by omega, by rw [sendsM_succ]; exact HP5, HB5⟩
                        case measure => simp [intOf]; omega
                      · obtain rfl : k = n.gates.length := by omega
                        have HPE : Hid (PostR (⟨w.heap.size + 1, pb, mb, lb, ob, base, A1, c1, A2, c2, n⟩ : PPar) wy (6000 + 80000 * (t + 1)) ow5 (tickM n t s)) := HPK.out.mono (by omega)
                        have HIE : Hid (InvM n ((t + 1 : Nat) : Int) (tickM n t s)) := HINV.out.tick HVV.out (by omega) (by omega)
                        go_wp2_with fail
                        go_roundw
                        case rel => exact ⟨t + 1, tickM n t s, ow5, by go_num, by omega, HPE, HIE, HRN, HBK⟩
                        case measure => simp [intOf]; omega
                  · obtain rfl : t = 10001 := by omega
                    have HPE : Hid (p = ([], 41)) := by
                      show _ = _
                      rw [← HPP.out]
                      unfold sendOut
                      rw [if_neg (by rw [HR.out, HR0.out]; simp), if_neg (by rw [HQ.out, HLN.out]; simp), HRUN.out, runM, if_pos (by rw [HSL.out]; exact hbusy)]
                    go_wp2_with fail
                    go_ret2
                    exact ⟨(HOB.out wx HBW.out).2.2, none, 0, by rw [HPE.out]; rfl, by rw [HPE.out]; exact Nat.le_refl _, by rw [HPE.out]; exact IntsA.nil0 _ _ _⟩
                · have g3 : decide (sl > 0) = false := decide_eq_false hbusy
                  have HPE : Hid (p = ((List.range n.flows.length).map s.out, 0)) := by
                    show _ = _
                    rw [← HPP.out]
                    unfold sendOut
                    rw [if_neg (by rw [HR.out, HR0.out]; simp), if_neg (by rw [HQ.out, HLN.out]; simp), HRUN.out, runM_stop n _ (by rw [HSL.out]; exact hbusy)]
                  have c5 : wx.cell? ⟨pb, 5, none⟩ = some (.slice (some ⟨ob, 0, none⟩) n.flows.length n.flows.length) := by
                    obtain ⟨nm, H2, l2, hnm, hPA⟩ := HPS.out
                    exact hPA.cells.2.2.2.2.2.1
                  have HOUT : Hid (IntsA wx wx.heap.size (some ⟨ob, 0, none⟩) ((List.range n.flows.length).map s.out)) := by
                    obtain ⟨nm, H2, l2, hnm, hPA⟩ := HPS.out
                    exact own_map0 hPA.outs (by omega)
                  go_wp2_with fail
                  go_ret2
                  exact ⟨(HOB.out wx HBW.out).2.2, some ⟨ob, 0, none⟩, n.flows.length, by rw [HPE.out]; simp, by rw [HPE.out]; simp, by rw [HPE.out]; exact HOUT.out⟩
    · have g2 : ((tr.length : Int) != (n.flows.length : Int)) = true := by rw [bne_iff_ne]; omega
      have HPE : Hid (p = ([], 1)) := by
        show _ = _
        rw [← HPP.out]
        unfold sendOut
        rw [if_neg (by rw [HR.out, hr0]; simp), if_pos (.inl hlen)]
      go_wp2_with fail
      go_ret2
      exact ⟨HE2.out.old, none, 0, by rw [HPE.out]; rfl, by rw [HPE.out]; exact Nat.le_refl _, by rw [HPE.out]; exact IntsA.nil0 _ _ _⟩
  · have g1 : (r != 0) = true := by simpa using hr0
    have HPE : Hid (p = ([], r)) := by
      show _ = _
      rw [← HPP.out]
      unfold sendOut
      rw [HR.out, if_pos hr0]
    go_wp2_with fail
    go_ret2
    exact ⟨HE2.out.old, none, 0, by rw [HPE.out]; rfl, by rw [HPE.out]; exact Nat.le_refl _, by rw [HPE.out]; exact IntsA.nil0 _ _ _⟩
end
end Go.Proofs.Ytlbbhlkbhegegaa
