/- Walks of the slots: what a table means, completes, first, Schedule. -/
import Derived.Test.YtlbbhlkbhegegaaTa
import Derived.Test.YtlbbhlkbhegegaaRp1
import Derived.Test.YtlbbhlkbhegegaaSl3
/- Plain: what the walks of place, completes and first mean: the table, greedy placing, the first place. -/
namespace Go.Proofs.Ytlbbhlkbhegegaa
open Go.RowKit

def mm (g : MGate) : MMsg := ⟨g.rate, g.delay.toNat⟩
/-- a message that a bus with C cycles takes -/
structure MsgOk (C : Nat) (m : MMsg) : Prop where
  two : ∃ k, m.every = 2 ^ k
  le : m.every ≤ C
  snd : 0 ≤ m.sender ∧ m.sender ≤ 1000
def CycOk (C : Nat) : Prop := (∃ K, C = 2 ^ K) ∧ C ≤ 64
theorem CycOk.pos {C : Nat} (h : CycOk C) : 0 < C := by
  obtain ⟨⟨K, rfl⟩, _⟩ := h
  exact Nat.two_pow_pos K
theorem two_dvd {a b : Nat} (ha : ∃ k, a = 2 ^ k) (hb : ∃ k, b = 2 ^ k) (h : a ≤ b) : a ∣ b := by
  obtain ⟨i, rfl⟩ := ha
  obtain ⟨j, rfl⟩ := hb
  exact Nat.pow_dvd_pow 2 ((Nat.pow_le_pow_iff_right (by omega)).1 h)
theorem MsgOk.pos {C : Nat} {m : MMsg} (h : MsgOk C m) : 0 < m.every := by
  obtain ⟨k, hk⟩ := h.two
  rw [hk]; exact Nat.two_pow_pos k
theorem MsgOk.dvd {C : Nat} {m : MMsg} (h : MsgOk C m) (hC : CycOk C) : m.every ∣ C := two_dvd h.two hC.1 h.le
/-- what is placed, and the table that says so -/
structure TbOk (S C : Nat) (P : Placed) (snd : Nat → Int) (tk : Nat → Nat) : Prop where
  rep : RepT S C P snd tk
  each : ∀ p ∈ P, inP S p.1 p.2 ∧ MsgOk C p.1
section
variable {S C : Nat} {P : Placed} {snd : Nat → Int} {tk : Nat → Nat} {m : MMsg} {x : MPlace}
theorem TbOk.pows (h : TbOk S C P snd tk) (hm : MsgOk C m) : Pows P m := fun p hp => by
  have h1 := (h.each p hp).2
  refine ⟨h1.pos, ?_⟩
  rcases Nat.le_total p.1.every m.every with hle | hle
  · exact .inl (two_dvd h1.two hm.two hle)
  · exact .inr (two_dvd hm.two h1.two hle)
theorem TbOk.lt (h : TbOk S C P snd tk) (hC : CycOk C) : ∀ s, s < S → tk s < 18446744073709551616 := fun s hs => by
  rcases Nat.lt_or_ge (tk s) (2 ^ 64) with h1 | h1
  · exact h1
  · obtain ⟨i, hi, hb⟩ := Nat.exists_ge_and_testBit_of_ge_two_pow h1
    have := ((h.rep.bit s hs i).1 hb).1
    have := hC.2
    omega
theorem TbOk.free_iff (h : TbOk S C P snd tk) (hC : CycOk C) (hm : MsgOk C m) (hx : inP S m x) : freeB C snd tk m.sender m.every x.slot x.base = true ↔ freeP P m x := by
  rw [← rep_free h.rep (fun p hp => ⟨(h.each p hp).1, (h.each p hp).2.dvd hC, (h.each p hp).2.snd.1⟩) (h.pows hm) hx (hm.dvd hC) hC.pos (fun c => mask_spec (C := C) hx.2)]
  unfold freeB
  rw [Bool.and_eq_true, Bool.or_eq_true, decide_eq_true_eq, beq_iff_eq, beq_iff_eq]
theorem TbOk.put (h : TbOk S C P snd tk) (hm : MsgOk C m) (hx : inP S m x) (hf : freeP P m x) :
    TbOk S C (P ++ [(m, x)]) (fun i => if i = x.slot then m.sender else snd i) (fun i => if i = x.slot then tk i ||| maskC C m.every x.base else tk i) := by
  refine ⟨rep_put h.rep hf (fun c => mask_spec (C := C) hx.2), fun p hp => ?_⟩
  rcases List.mem_append.1 hp with hp | hp
  · exact h.each p hp
  · obtain rfl : p = (m, x) := by simpa using hp
    exact ⟨hx, hm⟩
theorem TbOk.owner (h : TbOk S C P snd tk) {p : MMsg × MPlace} (hp : p ∈ P) : snd p.2.slot = p.1.sender := h.rep.own p hp
theorem TbOk.greedy (h : TbOk S C P snd tk) (hC : CycOk C) (hm : MsgOk C m) (hx : inP S m x) (hf : freeB C snd tk m.sender m.every x.slot x.base = true) (hk : snd x.slot = m.sender ∨ NoneAt C snd tk m.sender m.every m.sender S) : GreedyAt S P m x := by
  refine ⟨hx, (h.free_iff hC hm hx).1 hf, ?_⟩
  rcases hk with hk | hk
  · left
    refine Classical.byContradiction fun hn => ?_
    have h1 := h.rep.none x.slot hx.1 fun p hp e => hn ⟨p, hp, e⟩
    have := hm.snd.1
    omega
  · right
    intro y hy hfy p hp e
    have h1 := h.owner hp
    have h2 := (hfy p hp e).1
    rw [e, h2] at h1
    have h3 := hk y.slot hy.1 h1 y.base hy.2
    rw [(h.free_iff hC hm hy).2 hfy] at h3
    cases h3
theorem TbOk.no (h : TbOk S C P snd tk) (hC : CycOk C) (hm : MsgOk C m) (h1 : NoneAt C snd tk m.sender m.every m.sender S) (h2 : NoneAt C snd tk m.sender m.every (-1) S) : ∀ x, inP S m x → ¬ freeP P m x := fun x hx hf => by
  have h3 := (h.free_iff hC hm hx).2 hf
  by_cases he : ∃ p ∈ P, p.2.slot = x.slot
  · obtain ⟨p, hp, e⟩ := he
    have h4 := h.owner hp
    rw [e, (hf p hp e).1] at h4
    rw [h1 x.slot hx.1 h4 x.base hx.2] at h3
    cases h3
  · have h4 := h.rep.none x.slot hx.1 fun p hp e => he ⟨p, hp, e⟩
    rw [h2 x.slot hx.1 h4 x.base hx.2] at h3
    cases h3
end
noncomputable def canB (S : Nat) (P : Placed) (l : List MMsg) : Bool := @decide (Can S P l) (Classical.propDecidable _)
theorem canB_iff {S : Nat} {P : Placed} {l : List MMsg} : canB S P l = true ↔ Can S P l := by unfold canB; exact @decide_eq_true_iff _ (Classical.propDecidable _)
theorem canB_no {S : Nat} {P : Placed} {l : List MMsg} (h : ¬ Can S P l) : canB S P l = false := by
  rcases hb : canB S P l
  · rfl
  · exact absurd (canB_iff.1 hb) h
theorem above_of {C : Nat} {g : MGate} {l : List MGate} (hs : (g :: l).Pairwise LeM) (hm : ∀ a ∈ g :: l, MsgOk C (mm a)) : Above (mm g) (l.map mm) := fun a ha => by
  obtain ⟨b, hb, rfl⟩ := List.mem_map.1 ha
  have h1 := hm b (by simp [hb])
  have h2 := (List.pairwise_cons.1 hs).1 b hb
  refine ⟨h1.pos, two_dvd (hm g (by simp)).two h1.two ?_⟩
  unfold LeM at h2
  show g.delay.toNat ≤ b.delay.toNat
  omega
/-- the messages of a row are all taken -/
def MsgsOk (C : Nat) (l : List MGate) : Prop := ∀ g ∈ l, MsgOk C (mm g) ∧ 0 ≤ g.delay
/-- as far as one is: what could be placed still can, behind the first k -/
structure DoneK (S C : Nat) (P : Placed) (L : List MGate) (k : Nat) (snd : Nat → Int) (tk : Nat → Nat) : Prop where
  ex : ∃ Q, TbOk S C (P ++ Q) snd tk ∧ (Can S P (L.map mm) ↔ Can S (P ++ Q) ((L.drop k).map mm))
section
variable {S C : Nat} {P : Placed} {L : List MGate} {k : Nat} {snd : Nat → Int} {tk : Nat → Nat}
theorem DoneK.start (h : TbOk S C P snd tk) : DoneK S C P L 0 snd tk := ⟨[], by rwa [List.append_nil], by rw [List.append_nil, List.drop_zero]⟩
theorem DoneK.lt (h : DoneK S C P L k snd tk) (hC : CycOk C) : ∀ s, s < S → tk s < 18446744073709551616 := by
  obtain ⟨Q, h1, _⟩ := h
  exact h1.lt hC
theorem DoneK.step (h : DoneK S C P L k snd tk) (hC : CycOk C) (hL : L.Pairwise LeM) (hm : MsgsOk C L) {g : MGate} (hg : L[k]? = some g) {s b : Nat} (hx : s < S ∧ b < g.delay.toNat) (hf : freeB C snd tk g.rate g.delay.toNat s b = true) (hk : snd s = g.rate ∨ NoneAt C snd tk g.rate g.delay.toNat g.rate S) :
    DoneK S C P L (k + 1) (fun i => if i = s then g.rate else snd i) (fun i => if i = s then tk i ||| maskC C g.delay.toNat b else tk i) := by
  obtain ⟨Q, h1, h2⟩ := h
  have hkl := lt_of_get hg
  have hgm : g ∈ L := List.mem_of_getElem? hg
  have hdrop : L.drop k = g :: L.drop (k + 1) := by
    rw [List.drop_eq_getElem_cons hkl]
    rw [List.getElem?_eq_getElem hkl] at hg
    injection hg with hg
    rw [hg]
  have hok := (hm g hgm).1
  have hgr : GreedyAt S (P ++ Q) (mm g) ⟨s, b⟩ := h1.greedy hC hok (x := ⟨s, b⟩) hx hf hk
  have hin : inP S (mm g) ⟨s, b⟩ := hx
  have hput := h1.put hok hin hgr.free
  refine ⟨Q ++ [(mm g, ⟨s, b⟩)], by rw [← List.append_assoc]; exact hput, ?_⟩
  rw [h2, hdrop, List.map_cons, greedy_iff hgr (h1.pows hok) (above_of (C := C) ?_ ?_), ← List.append_assoc]
  · rw [← hdrop]; exact hL.sublist (List.drop_sublist _ _)
  · rw [← hdrop]; exact fun a ha => (hm a (List.mem_of_mem_drop ha)).1
theorem DoneK.stop (h : DoneK S C P L k snd tk) (hC : CycOk C) (hm : MsgsOk C L) {g : MGate} (hg : L[k]? = some g) (h1 : NoneAt C snd tk g.rate g.delay.toNat g.rate S) (h2 : NoneAt C snd tk g.rate g.delay.toNat (-1) S) : ¬ Can S P (L.map mm) := by
  obtain ⟨Q, h3, h4⟩ := h
  have hkl := lt_of_get hg
  have hgm : g ∈ L := List.mem_of_getElem? hg
  have hdrop : L.drop k = g :: L.drop (k + 1) := by
    rw [List.drop_eq_getElem_cons hkl]
    rw [List.getElem?_eq_getElem hkl] at hg
    injection hg with hg
    rw [hg]
  rw [h4, hdrop, List.map_cons]
  exact can_no (h3.no hC (hm g hgm).1 h1 h2)
theorem DoneK.all (h : DoneK S C P L k snd tk) (hk : L.length ≤ k) : Can S P (L.map mm) := by
  obtain ⟨Q, h3, h4⟩ := h
  rw [h4, List.drop_of_length_le hk]
  exact can_nil
end
theorem can_perm {S : Nat} {P : Placed} {L l : List MGate} (h : L.Perm l) : Can S P (L.map mm) ↔ Can S P (l.map mm) :=
  ⟨fun h1 => h1.perm (h.map mm), fun h1 => h1.perm (h.map mm).symm⟩
end Go.Proofs.Ytlbbhlkbhegegaa

/- Walks: completes. -/
namespace Go.Proofs.Ytlbbhlkbhegegaa
open Go.RowKit

section
variable {tb sb kb S C : Nat} {Am : Option Addr} {ml mc c1 c2 : Nat} {snd : Nat → Int} {tk : Nat → Nat}
theorem RowM.gates {w : World} {base : Nat} {v : Value} {l : List MGate} (h : RowM w base v l) : ∃ A c, v = .slice A l.length c ∧ ∀ w', Below w.heap.size w w' → GatesA w' w.heap.size A l := by
  rcases h with ⟨rfl, A, c, rfl⟩ | ⟨g, c, rfl, hg, ho⟩
  · exact ⟨A, c, rfl, fun w' _ hn => by simp at hn⟩
  · exact ⟨_, c, rfl, fun w' hb => ho.gates.below hb (Nat.le_refl _)⟩
set_option maxRecDepth 100000 in
set_option maxHeartbeats 8000000 in
theorem completes_any (P : Placed) (l : List MGate) (M : Option Addr) (lc : Nat) (w : World) (h : TbA w tb sb kb S C Am ml mc c1 c2 snd tk) (hT : TbOk S C P snd tk) (hS : 1 ≤ S ∧ S ≤ 30) (hC : CycOk C) (hG : GatesA w w.heap.size M l) (hm : MsgsOk C l) (hl : l.length ≤ 19) :
    Calls Try.prog 118 #[.pointer (some ⟨tb, 0, none⟩), .slice M l.length lc] w fun e' w' => e' = .returned (.bool (canB S P (l.map mm))) ∧ Below w.heap.size w w' := by
  have HCL := Lib.hid (clonem_any M lc l w hG (by omega))
  have HSO : Hid (∀ v W, RowM W w.heap.size v l → Calls Try.prog 127 #[v, .func (.func 128) #[] #[]] W fun e w' => e = .returned (.tuple #[]) ∧ SortM l w.heap.size v W w') := fun v W hW => sortm_any l v W hW (by omega)
  have HCP : Hid (∀ W, Below w.heap.size w W → Calls Try.prog 116 #[.pointer (some ⟨tb, 0, none⟩)] W fun e' w' => ∃ tb' sb' kb' c1' c2', e' = .returned (.pointer (some ⟨tb', 0, none⟩)) ∧ (W.heap.size ≤ sb' ∧ W.heap.size ≤ kb' ∧ W.heap.size ≤ tb') ∧ TbA w' tb' sb' kb' S C Am ml mc c1' c2' snd tk ∧ Below W.heap.size W w') := fun W hW => copied_any W (h.next hW) (by omega)
  have HHT := Lib.hid hT
  have HHC := Lib.hid hC
  have HHM := Lib.hid hm
  have hl' := hl
  clear hT hC hm h hG hl
  go_enter Try.func118, Try.ntmps118
  go_wp2_with (first
    | (go_at_call 126; refine HCL.out.mono ?_; rintro e' w2 ⟨v2, rfl, hr2, hb2⟩; have HR2 := Lib.hid hr2; have HB2 := Lib.hid hb2; clear hr2 hb2)
    | (go_at_call 127; refine (HSO.out _ _ HR2.out).mono ?_; rintro e' w3 ⟨rfl, L, hp, hr3, hb3⟩; have HPM := Lib.hid hp; have HR3 := Lib.hid hr3; have HB3 : Hid (Below w.heap.size w w3) := HB2.out.trans hb3; clear hp hr3 hb3)
    | (go_at_call 116; refine (HCP.out _ HB3.out).mono ?_; rintro e' w4 ⟨tb4, sb4, kb4, d1, d2, rfl, hn4, ht4, hb4⟩; have HN4 := Lib.hid hn4; have HT4 := Lib.hid ht4; have HB4 := Lib.hid hb4; clear hn4 ht4 hb4; obtain ⟨A2, k2, rfl, hg2⟩ := HR3.out.gates; have HG2 := Lib.hid hg2; clear hg2))
  have HB0 : Hid (Below w3.heap.size w3 w4) := HB4
  have HD0 : Hid (DoneK S C P L 0 snd tk) := DoneK.start HHT.out
  have HMS : Hid (MsgsOk C L) := fun g hg => HHM.out g (HPM.out.1.mem_iff.1 hg)
  have hle : L.length ≤ 19 := by rw [HPM.out.1.length_eq]; exact hl'
  have HPL : Hid (∀ (sn : Int) (e : Nat) (W : World) (snd' : Nat → Int) (tk' : Nat → Nat), TbA W tb4 sb4 kb4 S C Am ml mc d1 d2 snd' tk' → w3.heap.size ≤ W.heap.size → (0 < e ∧ e ≤ 64) → (∀ s, s < S → tk' s < 18446744073709551616) → Calls Try.prog 129 #[.pointer (some ⟨tb4, 0, none⟩), .agg #[.int .i64 sn, .int .i64 (e : Int)]] W (PlaceP w3.heap.size tb4 sb4 kb4 S C Am ml mc d1 d2 snd' tk' sn e W)) := fun sn e W snd' tk' h1 h2 h3 h4 => place_any w3.heap.size sn e W h1 ⟨HN4.out.1, HN4.out.2.1⟩ h2 (by omega) HHC.out.2 h3 h4
  clear HCL HSO HCP HR2 HR3 HN4 HB2
  go_loopw [4, 16] (fun v4 vk wr => v4 = .bool false ∧ ∃ (k : Nat) (snd' : Nat → Int) (tk' : Nat → Nat), k ≤ L.length ∧ vk = .int .i64 k ∧ Hid (TbA wr tb4 sb4 kb4 S C Am ml mc d1 d2 snd' tk') ∧ Hid (DoneK S C P L k snd' tk') ∧ Hid (Below w3.heap.size w3 wr)) (fun _ vk _ => L.length - (intOf vk).toNat)
  case atStart => exact ⟨rfl, 0, snd, tk, Nat.zero_le _, rfl, HT4, HD0, HB0⟩
  case round =>
    clear HT4 HD0 HB0 HB4
    obtain ⟨rfl, k, snd', tk', hk, rfl, HT, HD, HB⟩ := hrel
    rename World => wr
    by_cases hlk : k < L.length
    · obtain ⟨g, b, off, hg, rfl, hb, m0, m1⟩ := (HG2.out wr HB.out).at_ hlk
      have HGK := Lib.hid hg
      have HLK := Lib.hid hlk
      obtain ⟨e, he⟩ : ∃ e, g.delay.toNat = e := ⟨_, rfl⟩
      have hgo := HMS.out g (List.mem_of_getElem? hg)
      have hed : g.delay = (e : Int) := by omega
      have he1 : 0 < e ∧ e ≤ 64 := by
        have h1 := hgo.1.pos
        have h2 := hgo.1.le
        have h3 := HHC.out.2
        unfold mm at h1 h2
        dsimp only at h1 h2
        omega
      rw [hed] at m1
      have HE := Lib.hid he
      clear hg hgo hed he hb
      obtain ⟨w5, hw5⟩ : ∃ w5, wr.alloc (.cells #[.int .i64 g.rate, .int .i64 (e : Int)] 98) = w5 := ⟨_, rfl⟩
      have HB5 : Hid (Below w3.heap.size w3 w5) := by rw [← hw5]; exact HB.out.alloc HB.out.size _
      have HP5 : Hid (Calls Try.prog 129 #[.pointer (some ⟨tb4, 0, none⟩), .agg #[.int .i64 g.rate, .int .i64 (e : Int)]] w5 (PlaceP w3.heap.size tb4 sb4 kb4 S C Am ml mc d1 d2 snd' tk' g.rate e w5)) := HPL.out _ _ _ _ _ (HT.out.next (by rw [← hw5]; exact (Below.refl _ _).alloc (Nat.le_refl _) _)) HB5.out.size he1 (HD.out.lt HHC.out)
      obtain ⟨sn, hsn⟩ : ∃ sn, g.rate = sn := ⟨_, rfl⟩
      rw [hsn] at m0 HP5 hw5
      have HSN := Lib.hid hsn
      have hx5 : w5.heap[wr.heap.size]? = some (.cells #[.int .i64 sn, .int .i64 (e : Int)] 98 (0, 0)) := by rw [← hw5]; exact heap_alloc_new wr _
      have q0 : w5.cell? ⟨wr.heap.size, 0, none⟩ = some (.int .i64 sn) := cell_of_row w5 _ 0 _ _ _ hx5
      have q1 : w5.cell? ⟨wr.heap.size, 1, none⟩ = some (.int .i64 (e : Int)) := cell_of_row w5 _ 1 _ _ _ hx5
      clear hsn hx5
      go_wp2_with (go_at_call 129; refine HP5.out.mono ?_; rintro e' w6 ⟨hb6, (⟨s, b', hx, hf, hkd, rfl, ht⟩ | ⟨h1, h2, rfl, ht⟩)⟩)
      · have HX := Lib.hid hx
        have HTT := Lib.hid ht
        have HB6 : Hid (Below w3.heap.size w3 w6) := HB5.out.trans hb6
        have HDN : Hid (DoneK S C P L (k + 1) (fun i => if i = s then sn else snd' i) (fun i => if i = s then tk' i ||| maskC C e b' else tk' i)) := by
          have h := HD.out.step HHC.out HPM.out.2 HMS.out HGK.out (s := s) (b := b') (by rw [HE.out]; exact hx) (by rw [HSN.out, HE.out]; exact hf) (by rw [HSN.out, HE.out]; exact hkd)
          rw [HSN.out, HE.out] at h
          exact h
        clear hx hf hkd ht hb6 q0 q1
        go_wp2_with fail
        go_roundw
        case rel => exact ⟨rfl, k + 1, _, _, by have := HLK.out; omega, by go_num, HTT, HDN, HB6⟩
        case measure => simp [intOf]; have := HLK.out; omega
      · have HF : Hid (canB S P (l.map mm) = false) := canB_no fun hc => HD.out.stop HHC.out HMS.out HGK.out (by rw [HSN.out, HE.out]; exact h1) (by rw [HSN.out, HE.out]; exact h2) ((can_perm HPM.out.1).2 hc)
        have HB6 : Hid (Below w3.heap.size w3 w6) := HB5.out.trans hb6
        clear h1 h2 ht hb6 q0 q1
        go_wp2_with fail
        go_ret
        exact ⟨ret_b HF.out.symm, HB3.out.trans (HB6.out.mono HB3.out.size)⟩
    · obtain rfl : k = L.length := by omega
      have HF : Hid (canB S P (l.map mm) = true) := canB_iff.2 ((can_perm HPM.out.1).1 (HD.out.all (Nat.le_refl _)))
      go_wp2_with fail
      go_ret
      exact ⟨ret_b HF.out.symm, HB3.out.trans (HB.out.mono HB3.out.size)⟩
end
end Go.Proofs.Ytlbbhlkbhegegaa

/- Walks: first. Printed by gen_ti4.py. -/
namespace Go.Proofs.Ytlbbhlkbhegegaa
open Go.RowKit

theorem slot_info : (Try.prog.info? 96).map (·.size) = some 2 := by kernel_rfl
theorem slot_under : ∃ d, Try.prog.underlying 96 = some (.struct d) := by
  have h : (Try.prog.underlying 96).map (fun d => match d with | .struct _ => true | _ => false) = some true := by kernel_rfl
  rcases hu : Try.prog.underlying 96 with _ | d
  · rw [hu] at h; cases h
  · rw [hu] at h
    cases d
    case struct f => exact ⟨f, rfl⟩
    all_goals cases h
theorem results_cell_tmp {P : Program} {fn : Func} {p q : Tmp} {ty : TypeId} (h : fn.results = #[.cell p ty, .tmp q]) (tmps : Array Value) (w : World) (g : Nat) (t : TypeId) (cs : Array Value) (fr : Nat × Nat) (d : TypeDesc)
    (hp : tmps.getD p undef = .pointer (some ⟨g, 0, none⟩)) (hg : w.heap[g]? = some (.cells cs t fr))
    (hu : P.underlying ty = some d) (hd : (match d with | .struct _ | .array _ _ => true | _ => false) = true) (hi : (P.info? ty).map (·.size) = some cs.size) (v : Value) (hq : tmps.getD q undef = v) :
    (results fn tmps).run P w = .ok (.tuple #[.agg cs, v]) w := by
  have hp' : tmps[p]?.getD undef = .pointer (some ⟨g, 0, none⟩) := by simpa using hp
  have hq' : tmps[q]?.getD undef = v := by simpa using hq
  simp [results, h, hp', hq', asAddr, run_loadVar_row w g t ty cs fr d hg hu hd hi]
theorem put2 {w : World} {g : Nat} {t : TypeId} {x0 x1 : Value} (h : w.heap[g]? = some (.cells #[x0, x1] t (0, 0))) (a b : Value) : ((w.setCell ⟨g, 0, none⟩ a).setCell ⟨g, 1, none⟩ b).heap[g]? = some (.cells #[a, b] t (0, 0)) := by
  simp [World.setCell, Array.getElem?_modify, h]
theorem put2_rows {w : World} {g b : Nat} (hb : b ≠ g) (x y : Value) : ((w.setCell ⟨g, 0, none⟩ x).setCell ⟨g, 1, none⟩ y).heap[b]? = w.heap[b]? :=
  (Below.heap_setCell _ ⟨g, 1, none⟩ _ b hb).trans (Below.heap_setCell w ⟨g, 0, none⟩ _ b hb)
section
variable {tb sb kb S C : Nat} {Am : Option Addr} {ml mc c1 c2 : Nat} {snd : Nat → Int} {tk : Nat → Nat}
/-- a place at which the rest cannot be put, or none at all -/
def BadAt (S : Nat) (P : Placed) (m : MMsg) (l : List MMsg) (x : MPlace) : Prop := freeP P m x → ¬ Can S (P ++ [(m, x)]) l
/-- what first leaves -/
def FirstP (S C : Nat) (Am : Option Addr) (ml mc : Nat) (P : Placed) (m : MMsg) (l : List MMsg) (w : World) (e' : Ending) (w' : World) : Prop :=
  Below w.heap.size w w' ∧ ((∃ x : MPlace, (inP S m x ∧ freeP P m x ∧ Can S (P ++ [(m, x)]) l) ∧ (∀ y, ltP y x → inP S m y → BadAt S P m l y) ∧ ∃ tb' sb' kb' c1' c2' snd' tk', e' = .returned (.tuple #[.agg #[.int .i64 (x.slot : Int), .int .i64 (x.base : Int)], .pointer (some ⟨tb', 0, none⟩)]) ∧ (w.heap.size ≤ tb' ∧ w.heap.size ≤ sb' ∧ w.heap.size ≤ kb') ∧ TbA w' tb' sb' kb' S C Am ml mc c1' c2' snd' tk' ∧ TbOk S C (P ++ [(m, x)]) snd' tk') ∨
    ((∀ y, inP S m y → BadAt S P m l y) ∧ e' = .returned (.tuple #[.agg #[.int .i64 0, .int .i64 0], .pointer none])))
theorem TbA.far {W : World} (h : TbA W tb sb kb S C Am ml mc c1 c2 snd tk) {p : Addr} (h1 : tb ≠ p.block) (h2 : sb ≠ p.block) (h3 : kb ≠ p.block) (u : Value) : TbA (W.setCell p u) tb sb kb S C Am ml mc c1 c2 snd tk :=
  ⟨(Below.heap_setCell W p u tb h1).trans h.box, h.sr.far h2 u, h.kr.far h3 u⟩
set_option maxRecDepth 100000 in
set_option maxHeartbeats 8000000 in
theorem first_any (P : Placed) (sn : Int) (e : Nat) (l : List MGate) (M : Option Addr) (lc : Nat) (w : World) (h : TbA w tb sb kb S C Am ml mc c1 c2 snd tk) (hT : TbOk S C P snd tk) (hS : 1 ≤ S ∧ S ≤ 30) (hC : CycOk C) (hG : GatesA w w.heap.size M l) (hm : MsgsOk C l) (hl : l.length ≤ 19) (hg : MsgOk C ⟨sn, e⟩) :
    Calls Try.prog 93 #[.pointer (some ⟨tb, 0, none⟩), .agg #[.int .i64 sn, .int .i64 (e : Int)], .slice M l.length lc] w (FirstP S C Am ml mc P ⟨sn, e⟩ (l.map mm) w) := by
  obtain ⟨w1, hw1⟩ : ∃ w1, (w.alloc (.cells #[.int .i64 sn, .int .i64 (e : Int)] 98)).alloc (.cells #[.int .i64 0, .int .i64 0] 96) = w1 := ⟨_, rfl⟩
  have hb1 : Below w.heap.size w w1 := by rw [← hw1]; exact ((Below.refl _ _).alloc (Nat.le_refl _) _).alloc (by simp) _
  have hs1 : w1.heap.size = w.heap.size + 2 := by rw [← hw1]; simp
  have hx1 : w1.heap[w.heap.size]? = some (.cells #[.int .i64 sn, .int .i64 (e : Int)] 98 (0, 0)) := by rw [← hw1]; exact (Below.heap_alloc _ _ _ (by simp)).trans (heap_alloc_new w _)
  have hx2 : w1.heap[w.heap.size + 1]? = some (.cells #[.int .i64 0, .int .i64 0] 96 (0, 0)) := by rw [← hw1]; have := heap_alloc_new (w.alloc (.cells #[.int .i64 sn, .int .i64 (e : Int)] 98)) (.cells #[.int .i64 0, .int .i64 0] 96); rwa [World.size_alloc] at this
  have HB1 : Hid (Below w.heap.size w w1) := hb1
  have HX1 : Hid (∀ W, Below w1.heap.size w1 W → W.cell? ⟨w.heap.size, 0, none⟩ = some (.int .i64 sn) ∧ W.cell? ⟨w.heap.size, 1, none⟩ = some (.int .i64 (e : Int))) := fun W hW => by
    have k1 := (hW.block w.heap.size (by omega)).trans hx1
    exact ⟨cell_of_row W _ 0 _ _ _ k1, cell_of_row W _ 1 _ _ _ k1⟩
  have HX2 : Hid (∀ W, Below w1.heap.size w1 W → W.heap[w.heap.size + 1]? = some (.cells #[.int .i64 0, .int .i64 0] 96 (0, 0))) := fun W hW => (hW.block (w.heap.size + 1) (by omega)).trans hx2
  have HTB : Hid (∀ W, Below w1.heap.size w1 W → TbA W tb sb kb S C Am ml mc c1 c2 snd tk ∧ W.cell? ⟨tb, 3, none⟩ = some (.slice (some ⟨sb, 0, none⟩) S c1)) := fun W hW => by
    have k := (h.next hb1).next hW
    exact ⟨k, cell_of_row W _ 3 _ _ _ k.box⟩
  have HGA : Hid (∀ W, Below w1.heap.size w1 W → GatesA W W.heap.size M l) := fun W hW => (hG.below (hb1.trans (hW.mono hb1.size)) (Nat.le_refl _)).more (by have := hW.size; have := hb1.size; omega)
  have HOK := Lib.hid (And.intro hT (And.intro hC hm))
  have HMG := Lib.hid hg
  have he0 := hg.pos
  have he1 := Nat.le_trans hg.le hC.2
  dsimp only at he0 he1
  have HFR : Hid (∀ (s b : Nat) (W : World) (r : Bool), freeB C snd tk sn e s b = r → Below w1.heap.size w1 W → s < S → Calls Try.prog 115 #[.pointer (some ⟨tb, 0, none⟩), .agg #[.int .i64 sn, .int .i64 (e : Int)], .agg #[.int .i64 (s : Int), .int .i64 (b : Int)]] W fun e' w' => e' = .returned (.bool r) ∧ Below W.heap.size W w') := fun s b W r hr hW hs => free_any sn e s b W (HTB.out W hW).1 hs hC.2 ⟨he0, he1⟩ (hT.lt hC) hr
  have HCP : Hid (∀ W, Below w1.heap.size w1 W → Calls Try.prog 116 #[.pointer (some ⟨tb, 0, none⟩)] W fun e' w' => ∃ tb' sb' kb' c1' c2', e' = .returned (.pointer (some ⟨tb', 0, none⟩)) ∧ (W.heap.size ≤ sb' ∧ W.heap.size ≤ kb' ∧ W.heap.size ≤ tb') ∧ TbA w' tb' sb' kb' S C Am ml mc c1' c2' snd tk ∧ Below W.heap.size W w') := fun W hW => copied_any W (HTB.out W hW).1 (by omega)
  have HPUT : Hid (∀ (tb' sb' kb' c1' c2' : Nat) (s b : Nat) (n0 : Nat) (W : World), TbA W tb' sb' kb' S C Am ml mc c1' c2' snd tk → (n0 ≤ sb' ∧ n0 ≤ kb') → n0 ≤ W.heap.size → s < S → Calls Try.prog 117 #[.pointer (some ⟨tb', 0, none⟩), .agg #[.int .i64 sn, .int .i64 (e : Int)], .agg #[.int .i64 (s : Int), .int .i64 (b : Int)]] W fun e' w' => e' = .returned (.tuple #[]) ∧ TbA w' tb' sb' kb' S C Am ml mc c1' c2' (fun i => if i = s then sn else snd i) (fun i => if i = s then tk i ||| maskC C e b else tk i) ∧ Below n0 W w') := fun tb' sb' kb' c1' c2' s b n0 W hW hn h0 hs => put_any n0 sn e s b W hW hn h0 hs hC.2 ⟨he0, he1⟩ (hT.lt hC)
  have HCM : Hid (∀ (tb' sb' kb' c1' c2' : Nat) (snd' : Nat → Int) (tk' : Nat → Nat) (P' : Placed) (r : Bool) (W : World), Below w1.heap.size w1 W → TbA W tb' sb' kb' S C Am ml mc c1' c2' snd' tk' → TbOk S C P' snd' tk' → canB S P' (l.map mm) = r → Calls Try.prog 118 #[.pointer (some ⟨tb', 0, none⟩), .slice M l.length lc] W fun e' w' => e' = .returned (.bool r) ∧ Below W.heap.size W w') := fun tb' sb' kb' c1' c2' snd' tk' P' r W hW h1 h2 hr => by
    rw [← hr]
    exact completes_any P' l M lc W h1 h2 hS hC (HGA.out W hW) hm hl
  have HB0 : Hid (Below w1.heap.size w1 w1) := Below.refl _ _
  have a4 := (HTB.out w1 (Below.refl _ _)).2
  have a1 := (HX1.out w1 (Below.refl _ _)).2
  obtain ⟨hS1, hS2⟩ := hS
  clear h hb1 hx1 hx2 hT hC hG hm hl hg
  go_enter Try.func93, Try.ntmps93
  go_wp2_with fail
  (try rw [hw1])
  clear a1 a4
  go_loopw [7, 17] (fun v7 vk wr => v7 = .pointer none ∧ ∃ k : Nat, k ≤ S ∧ vk = .int .i64 k ∧ Hid (∀ y : MPlace, y.slot < k → inP S ⟨sn, e⟩ y → BadAt S P ⟨sn, e⟩ (l.map mm) y) ∧ Hid (Below w1.heap.size w1 wr)) (fun _ vk _ => S - (intOf vk).toNat)
  case atStart => exact ⟨rfl, 0, Nat.zero_le _, rfl, (fun y hy => by omega), HB0.out⟩
  case round =>
    clear HB0
    obtain ⟨rfl, k, hk, rfl, HK, HB⟩ := hrel
    rename World => wr
    by_cases hlk : k < S
    · have a1 := (HX1.out wr HB.out).2
      have hd2 : decide ((k : Int) < (S : Int)) = true := decide_eq_true (by omega)
      have HLK := Lib.hid hlk
      go_wp2_with fail
      clear a1
      (try rw [hd2])
      obtain ⟨wo, rfl⟩ : ∃ wo : World, wo = wr := ⟨_, rfl⟩
      go_loopw [7, 22] (fun v7 vb wr => v7 = .pointer none ∧ ∃ b : Nat, b ≤ e ∧ vb = .int .i64 b ∧ Hid (∀ j, j < b → BadAt S P ⟨sn, e⟩ (l.map mm) ⟨k, j⟩) ∧ Hid (Below w1.heap.size w1 wr)) (fun _ vb _ => e - (intOf vb).toNat)
      case atStart => exact ⟨rfl, 0, Nat.zero_le _, rfl, (fun j hj => by omega), HB.out⟩
      case round =>
        clear HB
        obtain ⟨rfl, b, hb, rfl, HJ, HB⟩ := hrel
        rename World => wr
        by_cases hlb : b < e
        · have HLB := Lib.hid hlb
          obtain ⟨w5, hw5⟩ : ∃ w5, wr.alloc (.cells #[.int .i64 (k : Int), .int .i64 (b : Int)] 96) = w5 := ⟨_, rfl⟩
          have HB5 : Hid (Below w1.heap.size w1 w5) := by rw [← hw5]; exact HB.out.alloc HB.out.size _
          have HX5 : Hid (w5.heap[wr.heap.size]? = some (.cells #[.int .i64 (k : Int), .int .i64 (b : Int)] 96 (0, 0))) := by rw [← hw5]; exact heap_alloc_new wr _
          have HC5 : Hid (∀ W, Below w5.heap.size w5 W → (W.cell? ⟨wr.heap.size, 0, none⟩ = some (.int .i64 (k : Int)) ∧ W.cell? ⟨wr.heap.size, 1, none⟩ = some (.int .i64 (b : Int))) ∧ (W.cell? ⟨w.heap.size, 0, none⟩ = some (.int .i64 sn) ∧ W.cell? ⟨w.heap.size, 1, none⟩ = some (.int .i64 (e : Int)))) := fun W hW => by
            have k1 := (hW.block wr.heap.size (lt_of_cells HX5.out)).trans HX5.out
            exact ⟨⟨cell_of_row W _ 0 _ _ _ k1, cell_of_row W _ 1 _ _ _ k1⟩, HX1.out W (HB5.out.trans (hW.mono HB5.out.size))⟩
          obtain ⟨⟨b0, b1⟩, b2, b3⟩ := HC5.out w5 (Below.refl _ _)
          have HPB : Hid (∀ W, Below w5.heap.size w5 W → Below w1.heap.size w1 W) := fun W hW => HB5.out.trans (hW.mono HB5.out.size)
          have HIN : Hid (inP S ⟨sn, e⟩ ⟨k, b⟩) := ⟨HLK.out, HLB.out⟩
          rcases hf : freeB C snd tk sn e k b
          · have HBA : Hid (BadAt S P ⟨sn, e⟩ (l.map mm) ⟨k, b⟩) := fun hfr => by
              have := (HOK.out.1.free_iff HOK.out.2.1 HMG.out HIN.out).2 hfr
              have hf' : freeB C snd tk sn e k b = true := this
              rw [hf] at hf'
              cases hf'
            have HCF : Hid (Calls Try.prog 115 #[.pointer (some ⟨tb, 0, none⟩), .agg #[.int .i64 sn, .int .i64 (e : Int)], .agg #[.int .i64 (k : Int), .int .i64 (b : Int)]] w5 fun e' w' => e' = .returned (.bool false) ∧ Below w5.heap.size w5 w') := HFR.out k b w5 false hf HB5.out hlk
            clear hf
            go_wp2_with (go_at_call 115; refine HCF.out.mono ?_; rintro e' w6 ⟨rfl, hb6⟩; have HB6 := Lib.hid hb6; clear hb6)
            go_roundw
            case rel => exact ⟨rfl, b + 1, by omega, by go_num, (fun j hj => by
              rcases Nat.lt_or_ge j b with h | h
              · exact HJ.out j h
              · obtain rfl : j = b := by omega
                exact HBA.out), HPB.out _ HB6.out⟩
            case measure => simp [intOf]; omega
          · have HFP : Hid (freeP P ⟨sn, e⟩ ⟨k, b⟩) := (HOK.out.1.free_iff HOK.out.2.1 HMG.out HIN.out).1 hf
            have HTP : Hid (TbOk S C (P ++ [(⟨sn, e⟩, ⟨k, b⟩)]) (fun i => if i = k then sn else snd i) (fun i => if i = k then tk i ||| maskC C e b else tk i)) := HOK.out.1.put HMG.out HIN.out HFP.out
            have HCF : Hid (Calls Try.prog 115 #[.pointer (some ⟨tb, 0, none⟩), .agg #[.int .i64 sn, .int .i64 (e : Int)], .agg #[.int .i64 (k : Int), .int .i64 (b : Int)]] w5 fun e' w' => e' = .returned (.bool true) ∧ Below w5.heap.size w5 w') := HFR.out k b w5 true hf HB5.out hlk
            clear hf
            rcases hcb : canB S (P ++ [(⟨sn, e⟩, ⟨k, b⟩)]) (l.map mm)
            all_goals
              have HCB := Lib.hid hcb
              clear hcb
              go_wp2_with (first
                | (go_at_call 115; refine HCF.out.mono ?_; rintro e' w6 ⟨rfl, hb6⟩; have HB6 := Lib.hid hb6; obtain ⟨⟨b0, b1⟩, b2, b3⟩ := HC5.out w6 hb6; clear hb6)
                | (go_at_call 116; refine (HCP.out _ (HPB.out _ HB6.out)).mono ?_; rintro e' w7 ⟨tb7, sb7, kb7, d1, d2, rfl, hn7, ht7, hb7⟩; have HN7 := Lib.hid hn7; have HT7 := Lib.hid ht7; have HB67 := Lib.hid hb7; have HB7 : Hid (Below w5.heap.size w5 w7) := HB6.out.trans (hb7.mono HB6.out.size); obtain ⟨⟨b0, b1⟩, b2, b3⟩ := HC5.out w7 HB7.out; clear hn7 ht7 hb7)
                | (go_at_call 117; refine (HPUT.out tb7 sb7 kb7 d1 d2 k b w6.heap.size w7 HT7.out ⟨HN7.out.1, HN7.out.2.1⟩ HB67.out.size HLK.out).mono ?_; rintro e' w8 ⟨rfl, ht8, hb8⟩; have HT8 := Lib.hid ht8; have HB8 : Hid (Below w5.heap.size w5 w8) := HB6.out.trans ((HB67.out.trans hb8).mono HB6.out.size); clear ht8 hb8)
                | (go_at_call 118; refine (HCM.out tb7 sb7 kb7 d1 d2 _ _ _ _ w8 (HPB.out _ HB8.out) HT8.out HTP.out HCB.out).mono ?_; rintro e' w9 ⟨rfl, hb9⟩; have HT9 := Lib.hid (HT8.out.next hb9); have HB9 : Hid (Below w5.heap.size w5 w9) := HB8.out.trans (hb9.mono HB8.out.size); obtain ⟨⟨b0, b1⟩, b2, b3⟩ := HC5.out w9 HB9.out; have hz9 := HX2.out w9 (HPB.out _ HB9.out); have z0 := cell_of_row w9 _ 0 _ _ _ hz9; have z1 := cell_of_row w9 _ 1 _ _ _ hz9; have fz0 : w9.frozen? ⟨w.heap.size + 1, 0, none⟩ = false := (by simp [World.frozen?, hz9]); have fz1 : w9.frozen? ⟨w.heap.size + 1, 1, none⟩ = false := (by simp [World.frozen?, hz9]); clear hz9 hb9))
            · go_roundw
              case rel => exact ⟨rfl, b + 1, by omega, by go_num, (fun j hj => by
                rcases Nat.lt_or_ge j b with h | h
                · exact HJ.out j h
                · obtain rfl : j = b := by omega
                  exact fun _ hc => by
                    have := canB_iff.2 hc
                    rw [HCB.out] at this
                    cases this), HPB.out _ HB9.out⟩
              case measure => simp [intOf]; omega
            · obtain ⟨d, hu⟩ := slot_under
              (try simp only [Exit.inBlock, Exit.then])
              have hz := put2 (HX2.out w9 (HPB.out _ HB9.out)) (.int .i64 (k : Int)) (.int .i64 (b : Int))
              have q1 := HN7.out
              have q2 := HB6.out.size
              have q3 := HB5.out.size
              refine bodyPost_ret (results_cell_tmp rfl _ _ (w.heap.size + 1) 96 _ (0, 0) (.struct d) rfl hz hu rfl slot_info _ rfl) rfl ⟨((HB1.out.trans ((HPB.out _ HB9.out).mono HB1.out.size)).setCell (p := ⟨w.heap.size + 1, 0, none⟩) (by simp) _).setCell (p := ⟨w.heap.size + 1, 1, none⟩) (by simp) _, .inl ⟨⟨k, b⟩, ⟨HIN.out, HFP.out, canB_iff.1 HCB.out⟩, (fun y hy hyi => ?_), tb7, sb7, kb7, d1, d2, _, _, rfl, ⟨by omega, by omega, by omega⟩, (HT9.out.far (p := ⟨w.heap.size + 1, 0, none⟩) (by show tb7 ≠ w.heap.size + 1; omega) (by show sb7 ≠ w.heap.size + 1; omega) (by show kb7 ≠ w.heap.size + 1; omega) _).far (p := ⟨w.heap.size + 1, 1, none⟩) (by show tb7 ≠ w.heap.size + 1; omega) (by show sb7 ≠ w.heap.size + 1; omega) (by show kb7 ≠ w.heap.size + 1; omega) _, HTP.out⟩⟩
              obtain ⟨ys, yb⟩ := y
              rcases hy with hy | ⟨hy1, hy2⟩
              · exact HK.out ⟨ys, yb⟩ hy hyi
              · dsimp only at hy1 hy2
                subst hy1
                exact HJ.out yb hy2
        · obtain rfl : b = e := by omega
          go_wp2_with fail
          go_roundw
          case rel => exact ⟨rfl, k + 1, by omega, by go_num, (fun y hy hyi => by
            rcases Nat.lt_or_ge y.slot k with h | h
            · exact HK.out y h hyi
            · obtain ⟨ys, yb⟩ := y
              obtain rfl : ys = k := by dsimp only at hy h; omega
              exact HJ.out yb hyi.2), HB.out⟩
          case measure => simp [intOf]; omega
    · obtain rfl : k = S := by omega
      have hz9 := HX2.out wr HB.out
      have z0 := cell_of_row wr _ 0 _ _ _ hz9
      have z1 := cell_of_row wr _ 1 _ _ _ hz9
      have fz0 : wr.frozen? ⟨w.heap.size + 1, 0, none⟩ = false := by simp [World.frozen?, hz9]
      have fz1 : wr.frozen? ⟨w.heap.size + 1, 1, none⟩ = false := by simp [World.frozen?, hz9]
      have HZ9 := Lib.hid hz9
      clear hz9
      go_wp2_with fail
      obtain ⟨d, hu⟩ := slot_under
      (try simp only [Exit.inBlock, Exit.then])
      have hz := put2 HZ9.out (.int .i64 0) (.int .i64 0)
      exact bodyPost_ret (results_cell_tmp rfl _ _ (w.heap.size + 1) 96 _ (0, 0) (.struct d) rfl hz hu rfl slot_info _ rfl) rfl ⟨((HB1.out.trans (HB.out.mono HB1.out.size)).setCell (p := ⟨w.heap.size + 1, 0, none⟩) (by simp) _).setCell (p := ⟨w.heap.size + 1, 1, none⟩) (by simp) _, .inr ⟨fun y hyi => HK.out y hyi.1 hyi, rfl⟩⟩
end
end Go.Proofs.Ytlbbhlkbhegegaa

/- Walks: Schedule. Printed by gen_tj4.py. -/
namespace Go.Proofs.Ytlbbhlkbhegegaa
open Go.RowKit

theorem run_u64s (n : Nat) (hn : n ≤ 1000000) (w : World) : (Instr.makeSlice 127 (.int .i64 (n : Int)) (.int .i64 (n : Int))).run Try.prog w = .ok (.slice (some ⟨w.heap.size, 0, none⟩) n n) (w.alloc (.cells (madeCells #[.int .u64 0] n) 158)) := by
  obtain ⟨i0, hi, hz0, hz1, hz2⟩ := info_parts info_u64
  have h := run_make (P := Try.prog) (w := w) 127 158 i0 (.int .u64 0) under_u64s hi hz0 .i64 .i64 (n : Int) (n : Int) (by omega) (by omega) (by rw [hz2]; omega) (by omega)
  rw [h, hz1]
  simp [Value.cells]
theorem own_u64s (w : World) (n : Nat) : OwnF (w.alloc (.cells (madeCells #[.int .u64 0] n) 158)) w.heap.size 158 n (fun _ => .int .u64 0) := by
  refine ⟨_, heap_alloc_new w _, by simp [madeCells], fun j hj => ?_⟩
  simp [madeCells, hj, Nat.mod_one]
/-- places in a row of the call's own -/
def slotCells (xs : List MPlace) : List Value := xs.flatMap fun x => [.int .i64 (x.slot : Int), .int .i64 (x.base : Int)]
def OutX (w : World) (base : Nat) (v : Value) (xs : List MPlace) : Prop := w.ownsRow base 96 2 v xs.length (slotCells xs)
theorem OutX.nil (w : World) (base : Nat) : OutX w base (.slice none 0 0) [] := World.ownsRow_nil w base 96 2
theorem slots_app (xs : List MPlace) (x : MPlace) : slotCells (xs ++ [x]) = slotCells xs ++ [.int .i64 (x.slot : Int), .int .i64 (x.base : Int)] := by unfold slotCells; simp
/-- what Schedule leaves -/
def SchedP (S C : Int) (m : List MGate) (w : World) (e : Ending) (w' : World) : Prop :=
  Below w.heap.size w w' ∧ ((slottedB S C m = false ∧ e = .returned (.tuple #[.slice none 0 0, .int .i64 43])) ∨
    (slottedB S C m = true ∧ ¬ Can S.toNat [] (m.map mm) ∧ e = .returned (.tuple #[.slice none 0 0, .int .i64 44])) ∨
    (slottedB S C m = true ∧ ∃ xs v, FirstR S.toNat [] (m.map mm) xs ∧ OutX w' w.heap.size v xs ∧ e = .returned (.tuple #[v, .int .i64 0])))
theorem cyc_of {C : Int} (h : powB C 64 = true) : CycOk C.toNat := by
  have h1 := powB_le h
  unfold powB at h
  rw [Bool.and_eq_true] at h
  have h2 := h.2
  unfold pow2 at h2
  simp only [Bool.or_eq_true, beq_iff_eq] at h2
  refine ⟨?_, by omega⟩
  rcases h2 with (((((h2 | h2) | h2) | h2) | h2) | h2) | h2
  · exact ⟨0, by subst h2; rfl⟩
  · exact ⟨1, by subst h2; rfl⟩
  · exact ⟨2, by subst h2; rfl⟩
  · exact ⟨3, by subst h2; rfl⟩
  · exact ⟨4, by subst h2; rfl⟩
  · exact ⟨5, by subst h2; rfl⟩
  · exact ⟨6, by subst h2; rfl⟩
theorem slotted_cyc {S C : Int} {m : List MGate} (h : slottedB S C m = true) : CycOk C.toNat := by
  unfold slottedB at h
  rw [Bool.and_eq_true, Bool.and_eq_true, Bool.and_eq_true] at h
  exact cyc_of h.1.1.2
theorem slotted_msgs {S C : Int} {m : List MGate} (h : slottedB S C m = true) : MsgsOk C.toNat m := fun g hg => by
  have hC := slotted_cyc h
  have hp := (slotted_parts h).2.1
  unfold slottedB at h
  rw [Bool.and_eq_true, List.all_eq_true] at h
  have h1 := h.2 g hg
  unfold msgB at h1
  rw [Bool.and_eq_true, inB_iff] at h1
  have h2 := powB_le h1.2
  have h3 : powB g.delay 64 = true := by
    have h4 := h1.2
    unfold powB at h4 ⊢
    rw [Bool.and_eq_true, inB_iff] at h4 ⊢
    exact ⟨by omega, h4.2⟩
  exact ⟨⟨(cyc_of h3).1, by show g.delay.toNat ≤ _; omega, h1.1⟩, by omega⟩
theorem bel_alloc {a w : World} {o : Obj} (h : Below a.heap.size a w) : Below a.heap.size a (w.alloc o) := h.alloc h.size o
theorem bel_drew {a w : World} (h : Below a.heap.size a w) : Below a.heap.size a w.drew := h.drew
section
variable {ops : Array Oper} {rest : List Oper} {o : Oper} {a : Act} {Q : Exit → Act → World → Prop}
theorem info_slot : (Try.prog.info? 96).map (fun i => (i.zero, i.size, i.bytes)) = some (some (.agg #[.int .i64 0, .int .i64 0]), 2, 16) := by kernel_rfl
theorem under_slots : Try.prog.underlying 55 = some (.slice 96) := by kernel_rfl
set_option maxRecDepth 100000 in
theorem app_slot (w : World) (hg : o.guard = none) (s x : Operand) (ho : o.op = .call { callee := .builtin .append, args := #[s, x], argTypes := #[55, 55] }) (base : Nat) (v : Value) (l : List MPlace)
    (hs : a.eval s = v) (hown : OutX w base v l) (wb : Nat) (y : MPlace) (hx : a.eval x = .slice (some ⟨wb, 0, none⟩) 1 1) (hy0 : w.cell? ⟨wb, 0, none⟩ = some (.int .i64 (y.slot : Int))) (hy1 : w.cell? ⟨wb, 1, none⟩ = some (.int .i64 (y.base : Int))) (hlen : l.length ≤ 1000) (hbase : base ≤ w.heap.size)
    (hK : ∀ v' w', OutX w' base v' (l ++ [y]) → w.grownBy w' v.ownBlock → wpList Try.prog ops Q rest (a.put o.dst v') w') : wpList Try.prog ops Q (o :: rest) a w := by
  obtain ⟨i0, hi, hz0, hz1, hz2⟩ := info_parts info_slot
  refine wpList_append_own w hg s x 55 ho base 96 i0 _ 2 16 under_slots hi hz0 hz1 hz2 rfl (by decide) v l.length _ hs hown ⟨wb, 0, none⟩ 1 1 [.int .i64 (y.slot : Int), .int .i64 (y.base : Int)] hx rfl ?_ ?_ (by unfold maxLen; omega) (by omega) hbase (fun v' w' h1 h2 _ => hK v' w' ?_ h2)
  · intro j u hj
    match j, hj with
    | 0, hj => simp at hj; subst hj; simpa [Addr.add] using hy0
    | 1, hj => simp at hj; subst hj; simpa [Addr.add] using hy1
    | j + 2, hj => simp at hj
  · intro u hu; simp at hu; rcases hu with rfl | rfl <;> rfl
  · unfold OutX
    rw [List.length_append, slots_app]
    exact h1
end
def FirstQ (S C : Nat) (Am : Option Addr) (ml mc : Nat) (P : Placed) (m : MMsg) (l : List MMsg) (fa fb : Int) (fq : Option Addr) (B : Nat) (w' : World) : Prop :=
  (∃ x : MPlace, (fa = x.slot ∧ fb = x.base) ∧ (inP S m x ∧ freeP P m x ∧ Can S (P ++ [(m, x)]) l) ∧ (∀ y, ltP y x → inP S m y → BadAt S P m l y) ∧ ∃ tb' sb' kb' c1' c2' snd' tk', fq = some ⟨tb', 0, none⟩ ∧ (B ≤ tb' ∧ B ≤ sb' ∧ B ≤ kb') ∧ TbA w' tb' sb' kb' S C Am ml mc c1' c2' snd' tk' ∧ TbOk S C (P ++ [(m, x)]) snd' tk') ∨
    (fq = none ∧ ∀ y, inP S m y → BadAt S P m l y)
theorem FirstP.split {S C : Nat} {Am : Option Addr} {ml mc : Nat} {P : Placed} {m : MMsg} {l : List MMsg} {w : World} {e' : Ending} {w' : World} (h : FirstP S C Am ml mc P m l w e' w') :
    ∃ fa fb fq, e' = .returned (.tuple #[.agg #[.int .i64 fa, .int .i64 fb], .pointer fq]) ∧ FirstQ S C Am ml mc P m l fa fb fq w.heap.size w' ∧ Below w.heap.size w w' := by
  obtain ⟨hb, ⟨x, h1, h2, tb', sb', kb', c1', c2', snd', tk', rfl, hl, h3, h4⟩ | ⟨h1, rfl⟩⟩ := h
  · exact ⟨_, _, _, rfl, .inl ⟨x, ⟨rfl, rfl⟩, h1, h2, tb', sb', kb', c1', c2', snd', tk', rfl, hl, h3, h4⟩, hb⟩
  · exact ⟨_, _, _, rfl, .inr ⟨rfl, h1⟩, hb⟩
theorem FirstQ.next {S C : Nat} {Am : Option Addr} {ml mc : Nat} {P : Placed} {m : MMsg} {l : List MMsg} {fa fb : Int} {fq : Option Addr} {B : Nat} {w w' : World} (h : FirstQ S C Am ml mc P m l fa fb fq B w) (hb : Below w.heap.size w w') : FirstQ S C Am ml mc P m l fa fb fq B w' := by
  rcases h with ⟨x, h1, h2, h3, tb', sb', kb', c1', c2', snd', tk', h4, hl, h5, h6⟩ | h
  · exact .inl ⟨x, h1, h2, h3, tb', sb', kb', c1', c2', snd', tk', h4, hl, h5.next hb, h6⟩
  · exact .inr h
theorem FirstQ.far {S C : Nat} {Am : Option Addr} {ml mc : Nat} {P : Placed} {m : MMsg} {l : List MMsg} {fa fb : Int} {fq : Option Addr} {B : Nat} {w : World} (h : FirstQ S C Am ml mc P m l fa fb fq B w) {p : Addr} (hp : p.block < B) (u : Value) : FirstQ S C Am ml mc P m l fa fb fq B (w.setCell p u) := by
  rcases h with ⟨x, h1, h2, h3, tb', sb', kb', c1', c2', snd', tk', h4, hl, h5, h6⟩ | h
  · exact .inl ⟨x, h1, h2, h3, tb', sb', kb', c1', c2', snd', tk', h4, hl, h5.far (by omega) (by omega) (by omega) u, h6⟩
  · exact .inr h
theorem FirstQ.base {S C : Nat} {Am : Option Addr} {ml mc : Nat} {P : Placed} {m : MMsg} {l : List MMsg} {fa fb : Int} {fq : Option Addr} {B B' : Nat} {w : World} (h : FirstQ S C Am ml mc P m l fa fb fq B w) (hB : B' ≤ B) : FirstQ S C Am ml mc P m l fa fb fq B' w := by
  rcases h with ⟨x, h1, h2, h3, tb', sb', kb', c1', c2', snd', tk', h4, hl, h5, h6⟩ | h
  · exact .inl ⟨x, h1, h2, h3, tb', sb', kb', c1', c2', snd', tk', h4, ⟨by omega, by omega, by omega⟩, h5, h6⟩
  · exact .inr h
set_option maxRecDepth 100000 in
theorem step_c93 {ops : Array Oper} {o : Oper} {a : Act} {Q' : Act → World → Prop} {Q : Exit → Act → World → Prop} {E : Prop} (w : World) (hg : o.guard = none) (x y z : Operand) (ts : Array TypeId) (ho : o.op = .call { callee := .value (.func 93), args := #[x, y, z], argTypes := ts }) (u v t : Value) (R : Value → World → Prop)
    (hx : a.eval x = u) (hy : a.eval y = v) (hz : a.eval z = t) (hC : Calls Try.prog 93 #[u, v, t] w fun e w' => ∃ r, e = .returned r ∧ R r w')
    (hK : ∀ r w', R r w' → Q' (a.put o.dst r) w') : if Region.wanted o (yielded ops a.tmps) = true then Oper.wp Try.prog o a w Q' Q else E := by
  rw [if_pos (by simp [Region.wanted, hg])]
  have hf : a.eval (.func 93) = .func (.func 93) #[] #[] := rfl
  unfold Oper.wp execOp
  simp only [ho, resolve, invoke, Sem.run_bind, List.map_toArray, List.map_cons, List.map_nil, hx, hy, hz, hf]
  simp [go_sem]
  refine hC.mono ?_
  rintro e w2 ⟨r, rfl, hR⟩
  exact hK r w2 hR
theorem sizeof_msg (W : World) : (sizeOf 98).run Try.prog W = .ok 2 W := by
  obtain ⟨i0, hi, hz0, hz1, hz2⟩ := info_parts info_msg
  simp [sizeOf, typeInfo, hi, hz1]
theorem slice_msgs (W : World) (b off n cap k : Nat) (h1 : k + 1 ≤ n) : (Instr.slice 52 (.slice (some ⟨b, off, none⟩) n cap) (some (.int .i64 ((k : Int) + 1))) none none).run Try.prog W = .ok (.slice (if cap = k + 1 then some ⟨b, off, none⟩ else some ⟨b, off + (k + 1) * 2, none⟩) (n - (k + 1)) (cap - (k + 1))) W := by
  have e1 : ((k : Int) + 1).toNat = k + 1 := by omega
  have he : Try.prog.elem 52 = 98 := by kernel_rfl
  rw [run_slice_l W 52 _ _ _ (by rw [he]; exact under_msgs) .i64 _ (by omega) (by omega), he, sizeof_msg, e1]
  simp only [Result.andThen, sliced, Option.map_some, add_none']
theorem TbA.grown {tb sb kb S C : Nat} {Am : Option Addr} {ml mc c1 c2 : Nat} {snd : Nat → Int} {tk : Nat → Nat} {W W' : World} {row : Option Nat} (h : TbA W tb sb kb S C Am ml mc c1 c2 snd tk) (hb : W.grownBy W' row) (h1 : some tb ≠ row) (h2 : some sb ≠ row) (h3 : some kb ≠ row) : TbA W' tb sb kb S C Am ml mc c1 c2 snd tk :=
  ⟨(hb.block tb (lt_of_cells h.box) h1).trans h.box, h.sr.grown hb h2, h.kr.grown hb h3⟩
theorem gates_drop {w : World} {B b off cap i : Nat} {m : List MGate} (h : GatesA w B (some ⟨b, off, none⟩) m) (hc : m.length ≤ cap) : GatesA w B (if cap = i then some ⟨b, off, none⟩ else some ⟨b, off + i * 2, none⟩) (m.drop i) := fun hn => by
  rw [List.length_drop] at hn
  obtain ⟨b', off', hA, hlt, hf⟩ := h (by omega)
  injection hA with hA
  injection hA with h1 h2
  subst h1
  subst h2
  rw [if_neg (by omega)]
  refine ⟨b, off + i * 2, rfl, hlt, fun p j hp hj => ?_⟩
  rw [List.length_drop] at hp
  have h3 := hf (i + p) j (by omega) hj
  rw [show off + i * 2 + p * 2 + j = off + (i + p) * 2 + j by omega, h3]
  unfold gateCell
  rw [List.getD_eq_getElem?_getD, List.getD_eq_getElem?_getD, List.getElem?_drop]
theorem alloc_new1 (w : World) (a b : Obj) : ((w.alloc a).alloc b).heap[w.heap.size + 1]? = some b := by
  have := heap_alloc_new (w.alloc a) b
  rwa [World.size_alloc] at this
/-- Schedule behind k messages -/
structure SchK (S : Nat) (l : List MMsg) (k : Nat) (P : Placed) (xs : List MPlace) : Prop where
  go : ∀ ys, FirstR S P (l.drop k) ys → FirstR S [] l (xs ++ ys)
  can : (k = 0 ∧ P = []) ∨ Can S P (l.drop k)
  len : xs.length = k
theorem SchK.start {S : Nat} {l : List MMsg} : SchK S l 0 [] [] := ⟨fun _ h => h, .inl ⟨rfl, rfl⟩, rfl⟩
theorem drop_cons {α : Type} {l : List α} {k : Nat} {x : α} (h : l[k]? = some x) : l.drop k = x :: l.drop (k + 1) := by
  have hkl := lt_of_get h
  rw [List.drop_eq_getElem_cons hkl]
  rw [List.getElem?_eq_getElem hkl] at h
  injection h with h
  rw [h]
section
variable {S : Nat} {l : List MMsg} {k : Nat} {P : Placed} {xs : List MPlace} {m : MMsg}
theorem SchK.step (h : SchK S l k P xs) (hm : l[k]? = some m) {x : MPlace} (hx : inP S m x ∧ freeP P m x ∧ Can S (P ++ [(m, x)]) (l.drop (k + 1))) (hl : ∀ y, ltP y x → inP S m y → BadAt S P m (l.drop (k + 1)) y) : SchK S l (k + 1) (P ++ [(m, x)]) (xs ++ [x]) := by
  refine ⟨fun ys hys => ?_, .inr hx.2.2, by rw [List.length_append, h.len]; rfl⟩
  rw [List.append_assoc]
  refine h.go _ ?_
  rw [drop_cons hm]
  exact ⟨hx, hl, hys⟩
theorem SchK.no (h : SchK S l k P xs) (hm : l[k]? = some m) (hl : ∀ y, inP S m y → BadAt S P m (l.drop (k + 1)) y) : ¬ Can S [] l := by
  have hn : ¬ Can S P (l.drop k) := by
    rw [drop_cons hm]
    rintro ⟨zs, hz⟩
    match zs, hz with
    | z :: zs, hz => exact hl z hz.1 hz.2.1 ⟨zs, hz.2.2⟩
  rcases h.can with ⟨rfl, rfl⟩ | hc
  · exact hn
  · exact absurd hc hn
theorem SchK.fin (h : SchK S l l.length P xs) : FirstR S [] l xs := by
  have := h.go [] (by rw [List.drop_of_length_le (Nat.le_refl _)]; trivial)
  rwa [List.append_nil] at this
end
theorem SchK.end_ {S : Nat} {m : List MGate} {P : Placed} {xs : List MPlace} (h : SchK S (m.map mm) m.length P xs) : FirstR S [] (m.map mm) xs := by
  have h2 : SchK S (m.map mm) (m.map mm).length P xs := by rw [List.length_map]; exact h
  exact h2.fin
set_option maxRecDepth 100000 in
set_option maxHeartbeats 8000000 in
theorem schedule_any (S C : Int) (A : Option Addr) (cap : Nat) (m : List MGate) (w : World) (h : GatesA w w.heap.size A m) (hm : m.length ≤ maxLen) (hcap : m.length ≤ cap) (hsm : slottedB S C m = true → m.length ≤ 19) :
    Calls Try.prog 50 #[.agg #[.int .i64 S, .int .i64 C, .slice A m.length cap]] w (SchedP S C m w) := by
  have hE := SEnv.make (S := S) (C := C) (cap := cap) (t := 54) h
  have hx0 := heap_alloc_new w (.cells #[.int .i64 S, .int .i64 C, .slice A m.length cap] 54)
  have HC : Hid (∀ w1, Below (w.heap.size + 1) (w.alloc (.cells #[.int .i64 S, .int .i64 C, .slice A m.length cap] 54)) w1 → Calls Try.prog 72 #[.agg #[.int .i64 S, .int .i64 C, .slice A m.length cap]] w1 fun e w' => e = .returned (.int .i64 (slottedE S C m)) ∧ Below w1.heap.size w1 w') := fun w1 hb => slotted_any S C A cap m w1 ((hE.below hb (by omega)).msgs.more (by have := (hE.below hb (by omega)).size; omega)) hm
  clear h
  rcases hv : slottedB S C m
  · have HV := Lib.hid hv
    rw [slotted_no hv] at HC
    clear hv
    go_enter Try.func50, Try.ntmps50
    go_wp2_with (go_at_call 72; refine (HC.out _ (Below.refl _ _)).mono ?_; rintro e w2 ⟨rfl, hb2⟩)
    go_ret2
    exact ⟨hE.old.trans (hb2.mono (by simp)), .inl ⟨HV.out, rfl⟩⟩
  rw [slotted_yes hv] at HC
  have HV := Lib.hid hv
  have hpt := slotted_parts hv
  have hS := hpt.1
  have hCC := hpt.2.1
  have hm19 := hsm hv
  have HCY := Lib.hid (slotted_cyc hv)
  have HMS := Lib.hid (slotted_msgs hv)
  clear hv hpt hsm
  obtain ⟨s, hs⟩ : ∃ s : Nat, S = s := ⟨S.toNat, by omega⟩
  subst hs
  obtain ⟨c, hc⟩ : ∃ c : Nat, C = c := ⟨C.toNat, by omega⟩
  subst hc
  rw [Int.toNat_natCast] at HCY HMS
  have hmk := run_u64s s (by omega)
  have HX0 : Hid (∀ W, Below (w.heap.size + 1) (w.alloc (.cells #[.int .i64 s, .int .i64 c, .slice A m.length cap] 54)) W → W.cell? ⟨w.heap.size, 0, none⟩ = some (.int .i64 s) ∧ W.cell? ⟨w.heap.size, 1, none⟩ = some (.int .i64 c) ∧ W.cell? ⟨w.heap.size, 2, none⟩ = some (.slice A m.length cap) ∧ GatesA W W.heap.size A m) := fun W hW => by
    have k1 := (hW.block w.heap.size (by omega)).trans hx0
    have k2 := (hE.below hW (by omega))
    exact ⟨cell_of_row W _ 0 _ _ _ k1, cell_of_row W _ 1 _ _ _ k1, cell_of_row W _ 2 _ _ _ k1, k2.msgs.more (by have := k2.size; omega)⟩
  have HOLD : Hid (∀ W, Below (w.heap.size + 1) (w.alloc (.cells #[.int .i64 s, .int .i64 c, .slice A m.length cap] 54)) W → Below w.heap.size w W) := fun W hW => hE.old.trans (hW.mono (by omega))
  have HSZ : Hid ((w.alloc (.cells #[.int .i64 s, .int .i64 c, .slice A m.length cap] 54)).heap.size = w.heap.size + 1) := by show _ = _; simp
  have hcc := HX0.out _ (Below.refl _ _)
  obtain ⟨a0, a1, a2, _⟩ := hcc
  obtain ⟨w1, hw1⟩ : ∃ w1, w.alloc (.cells #[.int .i64 s, .int .i64 c, .slice A m.length cap] 54) = w1 := ⟨_, rfl⟩
  rw [hw1] at HC HX0 HOLD HSZ a0 a1 a2
  clear hE hx0 hm
  go_enter Try.func50, Try.ntmps50
  go_upto_region 1 with fail
  (try rw [hw1])
  go_upto_region 4 with (go_at_call 72; refine (HC.out _ (Below.refl _ _)).mono ?_; rintro e w2 ⟨rfl, hb2⟩; have HB2 : Hid (Below (w.heap.size + 1) w1 w2) := hb2.mono (by have := HSZ.out; omega); clear hb2)
  clear HC a0 a1 a2 hw1
  obtain ⟨a0, a1, a2, _⟩ := HX0.out w2 HB2.out
  have HXS : Hid (∀ W, Below w2.heap.size w2 W → W.cell? ⟨w.heap.size, 0, none⟩ = some (.int .i64 s) ∧ W.cell? ⟨w.heap.size, 1, none⟩ = some (.int .i64 c) ∧ W.cell? ⟨w.heap.size, 2, none⟩ = some (.slice A m.length cap)) := fun W hW => by
    obtain ⟨h0, h1, h2, _⟩ := HX0.out W (HB2.out.trans (hW.mono (by have := HB2.out.size; have := HSZ.out; omega)))
    exact ⟨h0, h1, h2⟩
  have HBB : Hid (Below w2.heap.size w2 w2) := Below.refl _ _
  have HRP : Hid (∀ (W : World) (xb : Nat), W.cell? ⟨xb, 0, none⟩ = some (.int .i64 (-1)) → xb < W.heap.size → Calls Try.prog 70 #[.slice (some ⟨xb, 0, none⟩) 1 1, .int .i64 s] W fun e w' => ∃ g, e = .returned (.slice (some ⟨g, 0, none⟩) s s) ∧ W.heap.size ≤ g ∧ OwnF w' g 3 s (fun _ => .int .i64 (-1)) ∧ Below W.heap.size W w') := fun W xb h1 h2 => repeat_any xb 1 s (-1) W h1 h2 (by omega)
  have H70 := Lib.hid (HRP.out (w2.alloc (.cells #[.int .i64 (-1)] 3)).drew w2.heap.size (newcell w2 _ _ _) (by show _ < (w2.alloc _).heap.size; simp))
  have H71 := Lib.hid (HRP.out ((w2.alloc (.cells #[.int .i64 (-1)] 3)).alloc (.cells (madeCells #[.int .u64 0] s) 158)).drew w2.heap.size ((acell (w2.alloc (.cells #[.int .i64 (-1)] 3)) (.cells (madeCells #[.int .u64 0] s) 158) w2.heap.size 0 (by simp)).trans (newcell w2 _ _ _)) (by show _ < ((w2.alloc _).alloc _).heap.size; simp; omega))
  have H72 := Lib.hid (HRP.out ((w2.alloc (.cells (madeCells #[.int .u64 0] s) 158)).alloc (.cells #[.int .i64 (-1)] 3)).drew (w2.heap.size + 1) (by have := newcell (w2.alloc (.cells (madeCells #[.int .u64 0] s) 158)) #[.int .i64 (-1)] 3 0; rw [World.size_alloc] at this; exact this) (by show _ < ((w2.alloc _).alloc _).heap.size; simp))
  have HA0 : Hid (Below w2.heap.size w2 (w2.alloc (.cells #[.int .i64 (-1)] 3)).drew) := bel_drew (bel_alloc (Below.refl _ _))
  have HA1 : Hid (Below w2.heap.size w2 ((w2.alloc (.cells #[.int .i64 (-1)] 3)).alloc (.cells (madeCells #[.int .u64 0] s) 158)).drew) := bel_drew (bel_alloc (bel_alloc (Below.refl _ _)))
  have HA2 : Hid (Below w2.heap.size w2 ((w2.alloc (.cells (madeCells #[.int .u64 0] s) 158)).alloc (.cells #[.int .i64 (-1)] 3)).drew) := bel_drew (bel_alloc (bel_alloc (Below.refl _ _)))
  have HK1 : Hid (OwnF ((w2.alloc (.cells #[.int .i64 (-1)] 3)).alloc (.cells (madeCells #[.int .u64 0] s) 158)).drew (w2.heap.size + 1) 158 s (fun _ => .int .u64 0)) := by
    have := own_u64s (w2.alloc (.cells #[.int .i64 (-1)] 3)) s
    rw [World.size_alloc] at this
    exact this
  have HK2 : Hid (OwnF ((w2.alloc (.cells (madeCells #[.int .u64 0] s) 158)).alloc (.cells #[.int .i64 (-1)] 3)).drew w2.heap.size 158 s (fun _ => .int .u64 0)) := OwnF.alloc (own_u64s w2 s) _
  clear HRP
  go_cut [5] (fun s5 wx => ∃ tb sb kb c1 c2, s5 = .pointer (some ⟨tb, 0, none⟩) ∧ Hid (TbA wx tb sb kb s c A m.length cap c1 c2 (fun _ => -1) (fun _ => 0)) ∧ Hid (Below w2.heap.size w2 wx))
  case first =>
    go_region_held3 (fun W => W.cell? ⟨w.heap.size, 0, none⟩ = some (.int .i64 s) ∧ W.cell? ⟨w.heap.size, 1, none⟩ = some (.int .i64 c) ∧ W.cell? ⟨w.heap.size, 2, none⟩ = some (.slice A m.length cap)) (first | (refine HXS.out _ ?_; (repeat' (first | assumption | exact Below.refl _ _ | apply bel_alloc | apply bel_drew)); done) | fail) ((first
      | (go_at_call 70; (with_reducible refine H70.out.mono ?_); rintro e w6 ⟨g6, rfl, hg6, ho6, hb6⟩; have HO6 := Lib.hid ho6; have hB6 : Below w2.heap.size w2 w6 := HA0.out.trans (hb6.mono HA0.out.size); clear hg6 ho6 hb6)
      | (go_at_call 70; (with_reducible refine H71.out.mono ?_); rintro e w6 ⟨g6, rfl, hg6, ho6, hb6⟩; have HO6 := Lib.hid ho6; have HK6 := Lib.hid (HK1.out.below hb6 HK1.out.lt); have hB6 : Below w2.heap.size w2 w6 := HA1.out.trans (hb6.mono HA1.out.size); clear hg6 ho6 hb6)
      | (go_at_call 70; (with_reducible refine H72.out.mono ?_); rintro e w6 ⟨g6, rfl, hg6, ho6, hb6⟩; have HO6 := Lib.hid ho6; have HK6 := Lib.hid (HK2.out.below hb6 HK2.out.lt); have hB6 : Below w2.heap.size w2 w6 := HA2.out.trans (hb6.mono HA2.out.size); clear hg6 ho6 hb6)
      | fail))
    all_goals
      go_wp2_with fail
      go_meet
    all_goals (first
      | exact ⟨_, g6, w6.heap.size, s, s, rfl, ⟨alloc_new1 w6 _ _, (HO6.out.alloc _).alloc _, (own_u64s w6 s).alloc _⟩, bel_alloc (bel_alloc hB6)⟩
      | exact ⟨_, g6, _, s, s, rfl, ⟨heap_alloc_new _ _, HO6.out.alloc _, HK6.out.alloc _⟩, bel_alloc hB6⟩)
  case rest =>
    obtain ⟨tb, sb, kb, c1, c2, rfl, HTB, HBC⟩ := hcut
    rename World => wc
    clear H70 H71 H72 HA0 HA1 HA2 HK1 HK2 hmk a0 a1 a2 HBB
    have HZ2 : Hid (w.heap.size + 1 ≤ w2.heap.size) := by have := HB2.out.size; have := HSZ.out; show _ ≤ _; omega
    have HX2 : Hid (∀ W, Below w2.heap.size w2 W → Below (w.heap.size + 1) w1 W) := fun W hW => HB2.out.trans (hW.mono HZ2.out)
    have HX3 : Hid (∀ W, Below w2.heap.size w2 W → W.cell? ⟨w.heap.size, 2, none⟩ = some (.slice A m.length cap)) := fun W hW => (HX0.out W (HX2.out W hW)).2.2.1
    have a2 := HX3.out wc HBC.out
    have HS0 : Hid (SchK s (m.map mm) 0 [] []) := SchK.start
    have HT0 : Hid (TbOk s c [] (fun _ => -1) (fun _ => 0)) := ⟨rep_nil, fun p hp => by cases hp⟩
    have HO0 : Hid (OutX wc w2.heap.size (.slice none 0 0) []) := OutX.nil _ _
    go_wp2_with fail
    clear a2
    go_loopw [2, 3, 5, 28] (fun v2 v3 v5 vk wr => v3 = .int .i64 0 ∧ ∃ (k tb sb kb c1 c2 : Nat) (snd : Nat → Int) (tk : Nat → Nat) (P : Placed) (xs : List MPlace), k ≤ m.length ∧ vk = .int .i64 k ∧ v5 = .pointer (some ⟨tb, 0, none⟩) ∧ Hid (TbA wr tb sb kb s c A m.length cap c1 c2 snd tk) ∧ Hid (TbOk s c P snd tk) ∧ Hid (SchK s (m.map mm) k P xs) ∧ Hid (OutX wr w2.heap.size v2 xs) ∧ Hid (Below w2.heap.size w2 wr)) (fun _ _ _ vk _ => m.length - (intOf vk).toNat)
    case atStart => exact ⟨rfl, 0, tb, sb, kb, c1, c2, _, _, _, _, Nat.zero_le _, rfl, rfl, HTB, HT0, HS0, HO0, HBC⟩
    case round =>
      clear HTB HT0 HS0 HO0 HBC
      obtain ⟨rfl, k, tb, sb, kb, c1, c2, snd, tk, P, xs, hk, rfl, rfl, HTB, HTO, HSK, HOX, HBW⟩ := hrel
      rename World => wr
      by_cases hlk : k < m.length
      · have HLK := Lib.hid hlk
        obtain ⟨b, off, g, hg, rfl, hb, m0, m1⟩ : ∃ b off g, m[k]? = some g ∧ A = some ⟨b, off, none⟩ ∧ b < wr.heap.size ∧ wr.cell? ⟨b, off + k * 2, none⟩ = some (.int .i64 g.rate) ∧ wr.cell? ⟨b, off + k * 2 + 1, none⟩ = some (.int .i64 g.delay) := by
          obtain ⟨g, b, off, h⟩ := (HX0.out wr (HX2.out wr HBW.out)).2.2.2.at_ hlk
          exact ⟨b, off, g, h⟩
        have HGK := Lib.hid hg
        have hgo := HMS.out g (List.mem_of_getElem? hg)
        have HGO := Lib.hid hgo.1
        obtain ⟨e, he⟩ : ∃ e, g.delay.toNat = e := ⟨_, rfl⟩
        have hed : g.delay = (e : Int) := by have := hgo.2; omega
        obtain ⟨sn, hsn⟩ : ∃ sn, g.rate = sn := ⟨_, rfl⟩
        have HMM : Hid (mm g = ⟨sn, e⟩) := by show mm g = _; unfold mm; rw [hsn, he]
        rw [hed] at m1
        rw [hsn] at m0
        clear hg hgo he hed hsn hb
        obtain ⟨w5, hw5⟩ : ∃ w5, wr.alloc (.cells #[.int .i64 sn, .int .i64 (e : Int)] 98) = w5 := ⟨_, rfl⟩
        have HB5 : Hid (Below wr.heap.size wr w5) := by rw [← hw5]; exact (Below.refl _ _).alloc (Nat.le_refl _) _
        have hx5 : w5.heap[wr.heap.size]? = some (.cells #[.int .i64 sn, .int .i64 (e : Int)] 98 (0, 0)) := by rw [← hw5]; exact heap_alloc_new wr _
        have HRD : Hid (∀ W, Below w5.heap.size w5 W → W.cell? ⟨wr.heap.size, 0, none⟩ = some (.int .i64 sn) ∧ W.cell? ⟨wr.heap.size, 1, none⟩ = some (.int .i64 (e : Int)) ∧ W.cell? ⟨w.heap.size, 2, none⟩ = some (.slice (some ⟨b, off, none⟩) m.length cap)) := fun W hW => by
          have k1 := (hW.block wr.heap.size (lt_of_cells hx5)).trans hx5
          exact ⟨cell_of_row W _ 0 _ _ _ k1, cell_of_row W _ 1 _ _ _ k1, HX3.out W (HBW.out.trans ((HB5.out.trans (hW.mono HB5.out.size)).mono HBW.out.size))⟩
        have hrd := HRD.out w5 (Below.refl _ _)
        obtain ⟨q0, q1, q2⟩ := hrd
        have e0 : IntKind.i64.wrap ((k : Int) + 1) = (k : Int) + 1 := IntWalk.i64_in _ (by omega)
        have e1 : ((k : Int) + 1).toNat = k + 1 := by omega
        have e2 : (0 : Int) ≤ (k : Int) + 1 := by omega
        have e3 : (k : Int) + 1 ≤ (m.length : Int) := by omega
        have e4 : (m.length : Int) ≤ (cap : Int) := by omega
        obtain ⟨R, hR⟩ : ∃ R : Nat → World → Value → World → Prop, R = fun B W r w' => ∃ fa fb fq, r = .tuple #[.agg #[.int .i64 fa, .int .i64 fb], .pointer fq] ∧ FirstQ s c (some ⟨b, off, none⟩) m.length cap P ⟨sn, e⟩ ((m.map mm).drop (k + 1)) fa fb fq B w' ∧ Below W.heap.size W w' := ⟨_, rfl⟩
        have H93 : Hid (∀ W, Below w5.heap.size w5 W → Calls Try.prog 93 #[.pointer (some ⟨tb, 0, none⟩), .agg #[.int .i64 sn, .int .i64 (e : Int)], .slice (if cap = k + 1 then some ⟨b, off, none⟩ else some ⟨b, off + (k + 1) * 2, none⟩) (m.length - (k + 1)) (cap - (k + 1))] W fun e' w' => ∃ r, e' = .returned r ∧ R W.heap.size W r w') := fun W hW => by
          have h1 := HB5.out.trans (hW.mono HB5.out.size)
          have hg := (HX0.out W (HX2.out W (HBW.out.trans (h1.mono HBW.out.size)))).2.2.2
          have hok : MsgOk c ⟨sn, e⟩ := HMM.out ▸ HGO.out
          have h2 := first_any (lc := cap - (k + 1)) P sn e (m.drop (k + 1)) (if cap = k + 1 then some ⟨b, off, none⟩ else some ⟨b, off + (k + 1) * 2, none⟩) W (HTB.out.next h1) HTO.out (by omega) HCY.out (gates_drop hg hcap) (fun x hx => HMS.out x (List.mem_of_mem_drop hx)) (by rw [List.length_drop]; omega) hok
          rw [List.length_drop] at h2
          refine h2.mono fun e' w' h3 => ?_
          obtain ⟨fa, fb, fq, h4, h5, h6⟩ := h3.split
          rw [List.map_drop] at h5
          exact ⟨_, h4, by rw [hR]; exact ⟨fa, fb, fq, rfl, h5, h6⟩⟩
        have HRR : Hid (∀ B W r w', R B W r w' → ∃ fa fb fq, r = .tuple #[.agg #[.int .i64 fa, .int .i64 fb], .pointer fq] ∧ FirstQ s c (some ⟨b, off, none⟩) m.length cap P ⟨sn, e⟩ ((m.map mm).drop (k + 1)) fa fb fq B w' ∧ Below W.heap.size W w') := fun B W r w' h => by rw [hR] at h; exact h
        obtain ⟨M', hM'⟩ : ∃ M', (if cap = k + 1 then some ⟨b, off, none⟩ else some ⟨b, off + (k + 1) * 2, none⟩) = (M' : Option Addr) := ⟨_, rfl⟩
        have hsl : ∀ W, (Instr.slice 52 (.slice (some ⟨b, off, none⟩) m.length cap) (some (.int .i64 ((k : Int) + 1))) none none).run Try.prog W = .ok (.slice M' (m.length - (k + 1)) (cap - (k + 1))) W := fun W => by
          rw [← hM']
          exact slice_msgs W b off m.length cap k (by omega)
        rw [hM'] at H93
        clear hM'
        have HA93 := Lib.hid (H93.out w5.drew (bel_drew (Below.refl _ _)))
        have HB93 := Lib.hid (H93.out (w5.alloc (.cells #[.int .i64 0, .int .i64 0] 96)).drew (bel_drew (bel_alloc (Below.refl _ _))))
        have HZ5 : Hid ((w5.alloc (.cells #[.int .i64 0, .int .i64 0] 96)).drew.heap[w5.heap.size]? = some (.cells #[.int .i64 0, .int .i64 0] 96 (0, 0))) := heap_alloc_new w5 _
        have hrd2 := HRD.out (w5.alloc (.cells #[.int .i64 0, .int .i64 0] 96)).drew (bel_drew (bel_alloc (Below.refl _ _)))
        obtain ⟨r0, r1, r2⟩ := hrd2
        clear hx5 H93 hR
        go_upto_region 8 with fail
        (try rw [hw5])
        go_cut [8, 9] (fun v8 v9 wx => ∃ fa fb fq xb, v8 = .pointer (some ⟨xb, 0, none⟩) ∧ v9 = .pointer fq ∧ Hid (FirstQ s c (some ⟨b, off, none⟩) m.length cap P ⟨sn, e⟩ ((m.map mm).drop (k + 1)) fa fb fq w5.heap.size wx) ∧ Hid (wx.heap[xb]? = some (.cells #[.int .i64 fa, .int .i64 fb] 96 (0, 0))) ∧ Hid (Below w5.heap.size w5 wx))
        case first =>
          go_region_law (first
            | (refine step_c93 w5.drew (by rfl) _ _ _ _ (by rfl) _ _ _ (R w5.drew.heap.size w5.drew) (by rfl) (by rfl) (by rfl) HA93.out ?_; intro r w6 hr; obtain ⟨fa, fb, fq, rfl, hfq, hb6⟩ := HRR.out _ _ _ _ hr; have HFQ := Lib.hid hfq; have HB6 : Hid (Below w5.heap.size w5 w6) := (Below.refl w5.heap.size w5).drew.trans hb6; clear hfq hb6 hr)
            | (refine step_c93 (w5.alloc (.cells #[.int .i64 0, .int .i64 0] 96)).drew (by rfl) _ _ _ _ (by rfl) _ _ _ (R (w5.alloc (.cells #[.int .i64 0, .int .i64 0] 96)).drew.heap.size (w5.alloc (.cells #[.int .i64 0, .int .i64 0] 96)).drew) (by rfl) (by rfl) (by rfl) HB93.out ?_; intro r w6 hr; obtain ⟨fa, fb, fq, rfl, hfq, hb6⟩ := HRR.out _ _ _ _ hr; have HFQ := Lib.hid hfq; have hz := (hb6.block w5.heap.size (by show _ < (w5.alloc _).heap.size; simp)).trans HZ5.out; have HZ6 := Lib.hid hz; have z0 := cell_of_row w6 _ 0 _ _ _ hz; have z1 := cell_of_row w6 _ 1 _ _ _ hz; have fz0 : w6.frozen? ⟨w5.heap.size, 0, none⟩ = false := (by simp [World.frozen?, hz]); have fz1 : w6.frozen? ⟨w5.heap.size, 1, none⟩ = false := (by simp [World.frozen?, hz]); have HB6 : Hid (Below w5.heap.size w5 w6) := (bel_drew (bel_alloc (Below.refl _ _))).trans (hb6.mono (by show _ ≤ (w5.alloc _).heap.size; simp)); clear hfq hb6 hr hz)
            | fail)
          all_goals
            go_wp2_with fail
            go_meet
          all_goals (first
            | exact ⟨fa, fb, fq, w6.heap.size, rfl, rfl, (HFQ.out.next ((Below.refl _ _).alloc (Nat.le_refl _) _)).base (by exact Nat.le_refl _), heap_alloc_new w6 _, bel_alloc HB6.out⟩
            | exact ⟨fa, fb, fq, w5.heap.size, rfl, rfl, ((HFQ.out.far (p := ⟨w5.heap.size, 0, none⟩) (by show _ < (w5.alloc _).heap.size; simp) _).far (p := ⟨w5.heap.size, 1, none⟩) (by show _ < (w5.alloc _).heap.size; simp) _).base (by show _ ≤ (w5.alloc _).heap.size; simp), put2 HZ6.out _ _, (HB6.out.setCell (p := ⟨w5.heap.size, 0, none⟩) (Nat.le_refl _) _).setCell (p := ⟨w5.heap.size, 1, none⟩) (Nat.le_refl _) _⟩)
        case rest =>
          obtain ⟨fa, fb, fq, xb, rfl, rfl, HFQ, HXB, HB6⟩ := hcut
          rename World => wc
          clear HA93 HB93 HZ5 HRR q0 q1 q2 r0 r1 r2 m0 m1 hsl hw5
          have HBC : Hid (Below w2.heap.size w2 wc) := HBW.out.trans ((HB5.out.trans (HB6.out.mono HB5.out.size)).mono HBW.out.size)
          have HGM : Hid ((m.map mm)[k]? = some ⟨sn, e⟩) := by show _ = _; rw [List.getElem?_map, HGK.out, Option.map_some, HMM.out]
          rcases HFQ.out with ⟨x, ⟨rfl, rfl⟩, h1, h2, tb', sb', kb', c1', c2', snd', tk', rfl, hl5, h5, h6⟩ | ⟨rfl, h1⟩
          · have HSN := Lib.hid (HSK.out.step HGM.out h1 h2)
            have HT5 := Lib.hid h5
            have HT6 := Lib.hid h6
            have HXL : Hid (xs.length ≤ 1000) := by have := HSK.out.len; show _ ≤ _; omega
            have z0 := cell_of_row wc _ 0 _ _ _ HXB.out
            have z1 := cell_of_row wc _ 1 _ _ _ HXB.out
            have HOC : Hid (OutX wc w2.heap.size u2 xs) := own_below HOX.out (HB5.out.trans (HB6.out.mono HB5.out.size)) (fun q hq => (own_block_lt HOX.out q hq).2)
            have HNE : Hid (∀ q, w5.heap.size ≤ q → some q ≠ u2.ownBlock) := fun q hq he => by
              have h1 := (own_block_lt HOX.out q he.symm).2
              have h2 := HB5.out.size
              omega
            have hzc : w2.heap.size ≤ wc.heap.size := HBC.out.size
            have HOA : Hid (OutX (wc.alloc (.cells #[.int .i64 (x.slot : Int), .int .i64 (x.base : Int)] 96)) w2.heap.size u2 xs) := own_below HOC.out ((Below.refl wc.heap.size wc).alloc (Nat.le_refl _) _) (fun q hq => (own_block_lt HOC.out q hq).2)
            have HNA0 := Lib.hid (newcell wc #[.int .i64 (x.slot : Int), .int .i64 (x.base : Int)] 96 0)
            have HNA1 := Lib.hid (newcell wc #[.int .i64 (x.slot : Int), .int .i64 (x.base : Int)] 96 1)
            clear h1 h2 h5 h6
            go_wp2_with (at_builtin; refine app_slot _ rfl _ _ rfl w2.heap.size u2 xs rfl HOA.out wc.heap.size x rfl HNA0.out HNA1.out HXL.out (by rw [World.size_alloc]; omega) ?_; intro v7 w7 ho7 hg7; have HO7 := Lib.hid ho7; have HG7 : Hid (Below w2.heap.size wc w7) := (((Below.refl w2.heap.size wc).alloc hzc _).grown hg7 (by rw [World.size_alloc]; omega) (fun q hq => (own_block_lt HOA.out q hq).1)); have HT7 := Lib.hid ((HT5.out.next ((Below.refl _ _).alloc (Nat.le_refl _) _)).grown hg7 (HNE.out tb' hl5.1) (HNE.out sb' hl5.2.1) (HNE.out kb' hl5.2.2)); clear ho7 hg7)
            exact ⟨⟨rfl, k + 1, tb', sb', kb', c1', c2', snd', tk', _, _, by omega, by go_num, rfl, HT7, HT6, HSN, HO7, HBC.out.trans HG7.out⟩, by simp [intOf]; omega⟩
          · have HNO := Lib.hid (HSK.out.no HGM.out h1)
            clear h1
            go_wp2_with fail
            go_ret2
            exact ⟨HOLD.out _ (HX2.out _ HBC.out), .inr (.inl ⟨HV.out, HNO.out, rfl⟩)⟩
      · obtain rfl : k = m.length := by omega
        have HF : Hid (FirstR s [] (m.map mm) xs) := HSK.out.end_
        go_wp2_with fail
        go_ret2
        exact ⟨HOLD.out _ (HX2.out _ HBW.out), .inr (.inr ⟨HV.out, xs, u2, HF.out, own_base HOX.out (by have := HZ2.out; omega), rfl⟩)⟩
end Go.Proofs.Ytlbbhlkbhegegaa
