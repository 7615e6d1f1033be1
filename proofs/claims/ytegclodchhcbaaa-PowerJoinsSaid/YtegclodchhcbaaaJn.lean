/- Walk: join, a net with some users. -/
import Derived.Test.YtegclodchhcbaaaLv
namespace Go.Proofs.Ytegclodchhcbaaa
open Go.RowKit

/-- how much the first k of some users need -/
def needS (g : MGrid) (want : List Int) (k : Nat) : Int := sumN (fun i => (g.users.getD (want.getD i 0).toNat dUser).power) k
theorem needS_bd {g : MGrid} {n : Nat} (hg : GridOk g n) {want : List Int} (hw : WantOk g want) : ∀ k : Nat, k ≤ want.length → 0 ≤ needS g want k ∧ needS g want k ≤ k * 1000000
  | 0, _ => by show (0 : Int) ≤ 0 ∧ (0 : Int) ≤ _; simp
  | k + 1, hk => by
    have h1 := needS_bd hg hw k (by omega)
    have hx := hw.lt _ (getD_mem_of (show k < want.length by omega) 0)
    have h2 := hg.use _ (getD_mem_of hx dUser)
    unfold needS at h1 ⊢
    rw [sumN]
    push_cast
    omega
theorem results_net {fn : Func} {p u : Tmp} (h : fn.results = #[.cell p 86, .tmp u]) (tmps : Array Value) (w : World) (g : Nat) (C : Array Value) (c : Tab) (hC : TabC C c) (v : Value)
    (hp : tmps.getD p undef = .pointer (some ⟨g, 0, none⟩)) (hg : w.heap[g]? = some (.cells C 86 (0, 0))) (hu : tmps.getD u undef = v) :
    (results fn tmps).run Try.prog w = .ok (.tuple #[.agg C, v]) w := by
  obtain ⟨d, hd⟩ : ∃ d, Try.prog.underlying 86 = some (.struct d) := ⟨_, Try.underlying86⟩
  rw [results_cell_tmp h, hp, hu]
  simp [asAddr, run_loadVar_row w g 86 86 C (0, 0) (.struct d) hg hd rfl hC.sz]
structure JoinW (s : Nat) (w : World) (box : Obj) (c : Tab) (wr : World) : Prop where
  tab : TabA wr s c
  box : wr.heap[s + 1]? = some box
  res : TabA wr (s + 2) zeroT
  bel : Below s w wr
  siz : s + 3 ≤ wr.heap.size
theorem JoinW.later {s : Nat} {w : World} {box : Obj} {c : Tab} {wr w' : World} (h : JoinW s w box c wr) (hb : Below wr.heap.size wr w') : JoinW s w box c w' := by
  have h1 := h.siz
  exact ⟨h.tab.keep (hb.block _ (by omega)), (hb.block _ (by omega)).trans h.box, h.res.keep (hb.block _ (by omega)), h.bel.trans (hb.mono (by omega)), Nat.le_trans h1 hb.size⟩
theorem JoinW.put {s : Nat} {w : World} {box : Obj} {c : Tab} {wr : World} (h : JoinW s w box c wr) {i k : Nat} (hk : k < 22) (v : Int) : JoinW s w box (upd c i k v) (wr.setCell ⟨s, i * 22 + k, none⟩ (.int .i64 v)).drew := by
  have h1 := h.siz
  exact ⟨(h.tab.set hk v).drewN 1, (Below.heap_setCell wr ⟨s, i * 22 + k, none⟩ _ (s + 1) (by show s + 1 ≠ s; omega)).trans h.box, (h.res.keep (Below.heap_setCell wr ⟨s, i * 22 + k, none⟩ _ (s + 2) (by show s + 2 ≠ s; omega))).drewN 1, (h.bel.setCell (p := ⟨s, i * 22 + k, none⟩) (Nat.le_refl _) _).drew, by simpa using h1⟩
set_option maxRecDepth 100000 in
set_option maxHeartbeats 8000000 in
theorem join_any (C0 : Array Value) (c0 : Tab) (hC0 : TabC C0 c0) (g : MGrid) (n : Nat) (A1 A2 A3 : Option Addr) (c1 c2 c3 : Nat) (A : Option Addr) (cap : Nat) (F : List MFault) (Aw : Option Addr) (wc : Nat) (want : List Int) (w : World) (h : GridA w w.heap.size g A1 A2 A3) (hf : FaultsA w w.heap.size A F) (hw : IntsA w w.heap.size Aw want) (hg : GridOk g n) (hwo : WantOk g want) (hwl : want.length ≤ 100) (hbd : Bd c0 9600000) :
    Calls Try.prog 60 #[.agg C0, .agg (gridC g A1 A2 A3 c1 c2 c3), .slice A F.length cap, .slice Aw want.length wc] w fun e w' => (∃ C, e = .returned (.tuple #[.agg C, .int .i64 (needS g want want.length)]) ∧ TabC C (usersT F 21 g.users want c0 want.length)) ∧ Below w.heap.size w w' := by
  unfold gridC
  obtain ⟨Z, hZ⟩ : ∃ Z, Z = Array.replicate 484 (Value.int .i64 0) := ⟨_, rfl⟩
  have hz86 := zero86.1
  have hTZ := tab_zero
  rw [← hZ] at hz86 hTZ
  clear hZ
  obtain ⟨w2, hw2⟩ : ∃ w2, w.alloc (.cells C0 86) = w2 := ⟨_, rfl⟩
  obtain ⟨w3, hw3⟩ : ∃ w3, w2.alloc (.cells #[.int .i64 g.nodes, .slice A1 g.lines.length c1, .slice A2 g.srcs.length c2, .slice A3 g.users.length c3] 26) = w3 := ⟨_, rfl⟩
  obtain ⟨w4, hw4⟩ : ∃ w4, w3.alloc (.cells Z 86) = w4 := ⟨_, rfl⟩
  have hs2 : w2.heap.size = w.heap.size + 1 := by rw [← hw2]; simp
  have hs3 : w3.heap.size = w.heap.size + 2 := by rw [← hw3]; simp [hs2]
  have hs4 : w4.heap.size = w.heap.size + 3 := by rw [← hw4]; simp [hs3]
  obtain ⟨box, hbox⟩ : ∃ box : Obj, (.cells #[.int .i64 g.nodes, .slice A1 g.lines.length c1, .slice A2 g.srcs.length c2, .slice A3 g.users.length c3] 26 (0, 0)) = box := ⟨_, rfl⟩
  have HJ : Hid (JoinW w.heap.size w box c0 w4) := by
    have q2 : w2.heap[w.heap.size]? = some (.cells C0 86 (0, 0)) := by rw [← hw2]; exact heap_alloc_new w _
    have q3 : w3.heap[w.heap.size + 1]? = some box := by rw [← hw3, ← hs2, ← hbox]; exact heap_alloc_new w2 _
    have q4 : w4.heap[w.heap.size + 2]? = some (.cells Z 86 (0, 0)) := by rw [← hw4, ← hs3]; exact heap_alloc_new w3 _
    have b24 : Below w2.heap.size w2 w4 := by rw [← hw4, ← hw3]; exact ((Below.refl _ _).alloc (Nat.le_refl _) _).alloc (by simp) _
    have b34 : Below w3.heap.size w3 w4 := by rw [← hw4]; exact (Below.refl _ _).alloc (Nat.le_refl _) _
    have b2 : Below w.heap.size w w2 := by rw [← hw2]; exact (Below.refl _ _).alloc (Nat.le_refl _) _
    exact ⟨⟨C0, (b24.block _ (by omega)).trans q2, hC0⟩, (b34.block _ (by omega)).trans q3, ⟨Z, q4, hTZ⟩, b2.trans (b24.mono (by omega)), by omega⟩
  have HG : Hid (∀ W, Below w.heap.size w W → GridA W w.heap.size g A1 A2 A3 ∧ FaultsA W W.heap.size A F ∧ IntsA W W.heap.size Aw want) := fun W hW => ⟨h.keep hW, (hf.keep hW).more hW.size, (hw.below hW (Nat.le_refl _)).more hW.size⟩
  have HGO := Lib.hid hg
  have HWO := Lib.hid hwo
  have hun := hg.nu
  have HBN : Hid (∀ k, k ≤ want.length → Bd (usersT F 21 g.users want c0 k) 109600000) := fun k hk => (Bd.usersT hbd hg.use hwo.lt k hk).more (by omega)
  have HND : Hid (∀ k, k ≤ want.length → 0 ≤ needS g want k ∧ needS g want k ≤ k * 1000000) := needS_bd hg hwo
  have HBX := Lib.hid hbox
  clear h hf hw hg hwo hbd hC0 hbox
  go_enter Try.func60, Try.ntmps60
  go_wp2_with fail
  go_loopw [15, 9] (fun vi vn wr => ∃ k : Nat, k ≤ want.length ∧ vi = .int .i64 k ∧ vn = .int .i64 (needS g want k) ∧ Hid (JoinW w.heap.size w box (usersT F 21 g.users want c0 k) wr)) (fun vi _ _ => want.length - (intOf vi).toNat)
  case atStart => exact ⟨0, Nat.zero_le _, rfl, rfl, HJ⟩
  case round =>
    clear HJ
    obtain ⟨k, hk, rfl, rfl, HJ⟩ := hrel
    rename World => wr
    by_cases hlt : k < want.length
    · obtain ⟨ab, ao, hAw, hab, ax⟩ := (HG.out wr HJ.out.bel).2.2.at_ hlt
      subst hAw
      have hxo := HWO.out _ (getD_mem_of hlt 0)
      obtain ⟨x, hx⟩ : ∃ x : Nat, want.getD k 0 = (x : Int) := ⟨(want.getD k 0).toNat, by omega⟩
      have hxl : x < g.users.length := by omega
      obtain ⟨f, lb, lo, hfe, hA, hlb, f0, f1, f2⟩ := (HG.out wr HJ.out.bel).1.us.at_ hxl
      subst hA
      have hfm : f ∈ g.users := by rw [← hfe]; exact getD_mem_of hxl dUser
      obtain ⟨hfa, hf1, hf2⟩ := HGO.out.user f hfm
      have hn := HGO.out.few
      obtain ⟨a, ha⟩ : ∃ a : Nat, f.node = (a : Int) := ⟨f.node.toNat, by omega⟩
      have ha22 : a < 22 := by omega
      rw [ha] at f0
      rw [hx] at ax
      have hst : usersT F 21 g.users want c0 (k + 1) = userT F 21 (usersT F 21 g.users want c0 k) f := by show userT F 21 _ (g.users.getD (want.getD k 0).toNat dUser) = _; rw [hx, Int.toNat_natCast, hfe]
      have hnd : needS g want (k + 1) = needS g want k + f.power := by show sumN _ k + (g.users.getD (want.getD k 0).toNat dUser).power = _; rw [hx, Int.toNat_natCast, hfe]; rfl
      have hnb := HND.out k hk
      have HBD := Lib.hid (HBN.out k hk)
      have HST := Lib.hid hst
      have HNS := Lib.hid hnd
      have HFA := Lib.hid ha
      have HLT := Lib.hid hlt
      have hbx := HJ.out.box
      rw [← HBX.out] at hbx
      have p3 := cell_of_row wr _ 3 _ _ _ hbx
      simp only [List.getElem?_toArray, List.getElem?_cons_succ, List.getElem?_cons_zero] at p3
      have hxs := HJ.out.siz
      clear hfe hfm hfa hn ha hst hnd hbx hx hxo
      generalize usersT F 21 g.users want c0 k = c at *
      generalize needS g want k = nd at *
      have hal : Below wr.heap.size wr (wr.alloc (.cells #[.int .i64 a, .int .i64 f.power, .int .i64 f.level] 55)) := (Below.refl _ _).alloc (Nat.le_refl _) _
      have HL1 : Hid (JoinW w.heap.size w box c (wr.alloc (.cells #[.int .i64 a, .int .i64 f.power, .int .i64 f.level] 55))) := HJ.out.later hal
      have HLC : Hid (∀ W, Below (wr.alloc (.cells #[.int .i64 a, .int .i64 f.power, .int .i64 f.level] 55)).heap.size (wr.alloc (.cells #[.int .i64 a, .int .i64 f.power, .int .i64 f.level] 55)) W → W.cell? ⟨wr.heap.size, 0, none⟩ = some (.int .i64 a) ∧ W.cell? ⟨wr.heap.size, 1, none⟩ = some (.int .i64 f.power)) := fun W hW => by
        have h1 := (hW.block wr.heap.size (by simp)).trans (heap_alloc_new wr (.cells #[.int .i64 a, .int .i64 f.power, .int .i64 f.level] 55))
        exact ⟨cell_of_row W _ 0 _ _ _ h1, cell_of_row W _ 1 _ _ _ h1⟩
      clear hal HJ
      have hndw : nd + f.power ≤ 1000000000 := by omega
      rcases b2 : lostB F 3 a
      · have B2 := Lib.hid b2
        clear b2
        go_upto_region 7 with (go_at_call 95; refine (lost_any A cap F 3 a _ (HG.out _ HL1.out.bel).2.1 B2.out).mono ?_; rintro e w5 ⟨rfl, hb5⟩; obtain ⟨d0, d1⟩ := HLC.out w5 hb5; have HB5 := Lib.hid hb5; have HL5 := Lib.hid (HL1.out.later hb5); clear hb5)
        have hba := HBD.out a 21
        have ct := HL5.out.tab.cell ha22 (k := 21) (by decide)
        have cf := HL5.out.tab.fr (a * 22 + 21)
        have e1 : IntKind.i64.wrap (c a 21 + f.power) = c a 21 + f.power := IntWalk.i64_in _ (by omega)
        refine wp_region_quiet_tail 12 (by kernel_rfl) (by kernel_rfl) ?_
        simp only [List.take_succ_cons, List.take_zero, List.drop_succ_cons, List.drop_zero]
        repeat (go_big_quiet_step (fail))
        refine wpQuiet_nil ?_
        have HL8 : Hid (JoinW w.heap.size w box (usersT F 21 g.users want c0 (k + 1)) (w5.setCell ⟨w.heap.size, a * 22 + 21, none⟩ (.int .i64 (c a 21 + f.power))).drew) := by
          show JoinW _ _ _ _ _
          rw [HST.out]
          unfold userT
          rw [HFA.out, if_neg (by rw [B2.out]; decide), Int.toNat_natCast]
          exact HL5.out.put (by decide) _
        go_wp2_with fail
        go_roundw
        case rel => exact ⟨k + 1, HLT.out, by go_num, by rw [HNS.out], HL8⟩
        case measure => simp [intOf]; have := HLT.out; omega
      · have B2 := Lib.hid b2
        clear b2
        have HEQ : Hid (usersT F 21 g.users want c0 (k + 1) = c) := by show _ = _; rw [HST.out]; unfold userT; rw [HFA.out, if_pos B2.out]
        go_wp2_with (go_at_call 95; refine (lost_any A cap F 3 a _ (HG.out _ HL1.out.bel).2.1 B2.out).mono ?_; rintro e w5 ⟨rfl, hb5⟩; obtain ⟨d0, d1⟩ := HLC.out w5 hb5; have HL5 := Lib.hid (HL1.out.later hb5); clear hb5)
        go_roundw
        case rel => exact ⟨k + 1, HLT.out, by go_num, by rw [HNS.out], by rw [HEQ.out]; exact HL5⟩
        case measure => simp [intOf]; have := HLT.out; omega
    · obtain rfl : want.length = k := by omega
      obtain ⟨C, hC1, hC2⟩ := HJ.out.tab
      obtain ⟨old, ho1, ho2⟩ := HJ.out.res
      have HC := Lib.hid hC2
      have HLD := Lib.hid hC1
      have HOLD := Lib.hid ho1
      have hos : old.size = C.size := by rw [ho2.1, hC2.1]
      have HOS := Lib.hid hos
      clear hC1 hC2 ho1 ho2 hos
      obtain ⟨d, hu⟩ : ∃ d, Try.prog.underlying 86 = some (.struct d) := ⟨_, Try.underlying86⟩
      go_wp2_with (first
        | (refine wpList_load_row rfl 86 _ rfl w.heap.size rfl 86 C (0, 0) (.struct d) HLD.out hu rfl HC.out.sz ?_)
        | (refine wpList_store_row rfl 86 _ _ rfl (w.heap.size + 2) C rfl rfl 86 old HOLD.out HC.out.sz HOS.out HC.out.one ?_))
      exact bodyPost_ret (results_net rfl _ _ (w.heap.size + 2) C _ HC.out _ rfl (setRow_heap wr (w.heap.size + 2) old C 86 (0, 0) HOLD.out) rfl) rfl ⟨⟨C, rfl, HC.out⟩, below_setRow HJ.out.bel (by omega) C⟩
end Go.Proofs.Ytegclodchhcbaaa
