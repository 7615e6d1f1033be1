/- Walk: Singles: the reference's. Printed by gen_sy8.py. -/
import Derived.Test.YtegclodchhcbaaaSx
import Derived.Test.YtegclodchhcbaaaSn
import Derived.Test.YtegclodchhcbaaaHm
namespace Go.Proofs.Ytegclodchhcbaaa
open Go.RowKit

/-- those of the first k faults that do harm alone -/
noncomputable def singL (g : MGrid) (level : Int) (L : List MFault) : Nat → List MFault
  | 0 => []
  | k + 1 => if harmB g [L.getD k dFault] level = true then singL g level L k ++ [L.getD k dFault] else singL g level L k
theorem singL_len (g : MGrid) (level : Int) (L : List MFault) : ∀ k, (singL g level L k).length ≤ k
  | 0 => Nat.le_refl _
  | k + 1 => by
    have := singL_len g level L k
    rw [singL]
    split
    · rw [List.length_append]; simp; omega
    · omega
theorem levelG_ok {g : MGrid} {l : Int} (h : levelG g l = 0) : checkG g = 0 ∧ inB l 0 4 = true := by
  unfold levelG at h
  split at h
  · rename_i h1
    split at h
    · rename_i h2; exact ⟨h1, h2⟩
    · exact absurd h (by decide)
  · rename_i h1; exact absurd h h1
def SingP (g : MGrid) (level : Int) (w : World) (e : Ending) (w' : World) : Prop :=
  Below w.heap.size w w' ∧ ((levelG g level ≠ 0 ∧ e = .returned (.tuple #[.slice none 0 0, .int .i64 (levelG g level)])) ∨ (levelG g level = 0 ∧ ∃ (n : Nat) (v : Value), GridOk g n ∧ e = .returned (.tuple #[v, .int .i64 0]) ∧ OutF w' w.heap.size v (singL g level (allF g n) (allF g n).length)))
theorem fault_one {w : World} {B : Nat} {A : Option Addr} {L : List MFault} (h : FaultsA w B A L) {k : Nat} (hk : k < L.length) : ∃ fb off, A = some ⟨fb, off, none⟩ ∧ fb < B ∧ FaultsA w B (some ⟨fb, off + k * 2, none⟩) [L.getD k dFault] ∧ w.cell? ⟨fb, off + k * 2, none⟩ = some (.int .i64 (L.getD k dFault).kind) ∧ w.cell? ⟨fb, off + k * 2 + 1, none⟩ = some (.int .i64 (L.getD k dFault).number) := by
  obtain ⟨fb, off, hA, hlt, hc⟩ := h.2 (by omega)
  have h0 := hc k 0 hk (by decide)
  have h1 := hc k 1 hk (by decide)
  refine ⟨fb, off, hA, hlt, ⟨by show 1 ≤ maxLen; decide, fun _ => ⟨fb, off + k * 2, rfl, hlt, fun i j hi hj => ?_⟩⟩, ?_, ?_⟩
  · obtain rfl : i = 0 := by simp at hi; omega
    have := hc k j hk hj
    rw [Nat.zero_mul, Nat.add_zero, this]
    rfl
  · exact h0
  · exact h1
set_option maxRecDepth 100000 in
set_option maxHeartbeats 8000000 in
theorem rSingles_any (g : MGrid) (A1 A2 A3 : Option Addr) (c1 c2 c3 : Nat) (level : Int) (w : World) (h : GridA w w.heap.size g A1 A2 A3) :
    Calls Try.prog 49 #[.agg (gridC g A1 A2 A3 c1 c2 c3), .int .i64 level] w (SingP g level w) := by
  obtain ⟨w1, hw1⟩ : ∃ w1, w.alloc (.cells #[.int .i64 g.nodes, .slice A1 g.lines.length c1, .slice A2 g.srcs.length c2, .slice A3 g.users.length c3] 26) = w1 := ⟨_, rfl⟩
  have hb1 : Below w.heap.size w w1 := by rw [← hw1]; exact (Below.refl _ _).alloc (Nat.le_refl _) _
  have hs1 : w1.heap.size = w.heap.size + 1 := by rw [← hw1]; simp
  have hx1 : w1.heap[w.heap.size]? = some (.cells #[.int .i64 g.nodes, .slice A1 g.lines.length c1, .slice A2 g.srcs.length c2, .slice A3 g.users.length c3] 26 (0, 0)) := by rw [← hw1]; exact heap_alloc_new w _
  have HX : Hid (∀ W, Below w1.heap.size w1 W → Below w.heap.size w W ∧ W.cell? ⟨w.heap.size, 0, none⟩ = some (.int .i64 g.nodes) ∧ W.cell? ⟨w.heap.size, 1, none⟩ = some (.slice A1 g.lines.length c1) ∧ W.cell? ⟨w.heap.size, 2, none⟩ = some (.slice A2 g.srcs.length c2) ∧ W.cell? ⟨w.heap.size, 3, none⟩ = some (.slice A3 g.users.length c3)) := fun W hW => by
    have h1 := (hW.block w.heap.size (by omega)).trans hx1
    exact ⟨hb1.trans (hW.mono (by omega)), cell_of_row W _ 0 _ _ _ h1, cell_of_row W _ 1 _ _ _ h1, cell_of_row W _ 2 _ _ _ h1, cell_of_row W _ 3 _ _ _ h1⟩
  have HG : Hid (∀ W, Below w.heap.size w W → GridA W W.heap.size g A1 A2 A3) := fun W hW => (h.keep hW).more hW.size
  obtain ⟨_, p0, p1, p2, p3⟩ := HX.out w1 (Below.refl _ _)
  obtain ⟨E, hE⟩ : ∃ E, levelG g level = E := ⟨_, rfl⟩
  have HE := Lib.hid hE
  have HCK : Hid (∀ W, Below w.heap.size w W → Calls Try.prog 82 #[.agg (gridC g A1 A2 A3 c1 c2 c3), .int .i64 level] W fun e w' => e = .returned (.int .i64 E) ∧ Below W.heap.size W w') := fun W hW => by have := leveled_any g A1 A2 A3 c1 c2 c3 level W (HG.out W hW); rw [hE] at this; exact this
  have HB0 : Hid (Below w1.heap.size w1 w1) := Below.refl _ _
  have HS1 := Lib.hid hs1
  unfold gridC at HCK ⊢
  clear h hb1 hx1 hs1
  by_cases hz : E = 0
  · subst hz
    obtain ⟨n, hgo⟩ := checkG_ok (levelG_ok hE).1
    have hnl := hgo.nl
    have hns := hgo.ns
    have hfew := hgo.few
    have HFL : Hid (∀ W, Below w1.heap.size w1 W → Calls Try.prog 83 #[.agg (gridC g A1 A2 A3 c1 c2 c3)] W fun e w' => ∃ v, e = .returned v ∧ OutF w' W.heap.size v (allF g n) ∧ Below W.heap.size W w') := fun W _ => rFaults_any g A1 A2 A3 c1 c2 c3 W n hgo.nodes (by omega) (by omega) (by omega)
    have HHM : Hid (∀ W A cap (f : MFault), Below w1.heap.size w1 W → FaultsA W W.heap.size A [f] → Calls Try.prog 84 #[.agg (gridC g A1 A2 A3 c1 c2 c3), .slice A 1 cap, .int .i64 level] W fun e w' => e = .returned (.bool (harmB g [f] level)) ∧ Below W.heap.size W w') := fun W A cap f hW hf => rharm_any g A1 A2 A3 c1 c2 c3 A cap [f] level W (HG.out W (HX.out W hW).1) hf hgo rfl
    have hll : (allF g n).length ≤ 70 := by
      unfold allF
      simp only [List.length_append, kindL_len]
      omega
    have HLL := Lib.hid hll
    have HGO := Lib.hid hgo
    unfold gridC at HFL HHM
    clear hE hgo hll
    obtain ⟨L, hL⟩ : ∃ L, allF g n = L := ⟨_, rfl⟩
    have HLE := Lib.hid hL
    rw [hL] at HFL HLL
    clear hL
    go_enter Try.func49, Try.ntmps49
    go_wp2_with (first
      | (go_at_call 82; refine (HCK.out _ (HX.out _ (Below.refl _ _)).1).mono ?_; rintro e w2 ⟨rfl, hb2⟩; have HB2 : Below w1.heap.size w1 w2 := hb2; clear hb2 p0 p1 p2 p3; obtain ⟨_, p0, p1, p2, p3⟩ := HX.out w2 HB2)
      | (go_at_call 83; refine (HFL.out _ HB2).mono ?_; rintro e w3 ⟨v3, rfl, ho3, hb3⟩; have HO3 := Lib.hid ho3; have HB3 : Hid (Below w1.heap.size w1 w3) := bel_next HB2 hb3; clear ho3 hb3 p0 p1 p2 p3)
      | fail)
    obtain ⟨Af, cf, rfl, hcf, hf3⟩ := HO3.out.reads (by have := HLL.out; unfold maxLen; omega)
    have HCF := Lib.hid hcf
    have HF3 := Lib.hid hf3
    have HR0 : Hid (OutF w3 w3.heap.size (.slice none 0 0) (singL g level L 0)) := ⟨rowL_len _ _ _, .inl ⟨rfl, rfl⟩⟩
    have HC0 : Hid (Below w3.heap.size w3 w3) := Below.refl _ _
    clear HO3 HFL HCK HB2 HB0 hcf hf3
    go_loopw [9, 7] (fun vi vo wr => ∃ (k : Nat) (V : Value), k ≤ L.length ∧ vi = .int .i64 k ∧ V = vo ∧ Hid (OutF wr w3.heap.size V (singL g level L k)) ∧ Hid (Below w3.heap.size w3 wr)) (fun vi _ _ => L.length - (intOf vi).toNat)
    case atStart => exact ⟨0, _, Nat.zero_le _, rfl, rfl, HR0.out, HC0.out⟩
    case round =>
      clear HR0 HC0
      obtain ⟨k, V, hk, rfl, rfl, HV, HB⟩ := hrel
      rename World => wr
      have HBr : Hid (Below w1.heap.size w1 wr) := bel_next HB3.out HB.out
      obtain ⟨_, p0, p1, p2, p3⟩ := HX.out wr HBr.out
      by_cases hlt : k < L.length
      · have HLT := Lib.hid hlt
        obtain ⟨fb, off, hA, hfb, hfo, hc0, hc1⟩ := fault_one HF3.out hlt
        subst hA
        obtain ⟨f, hf⟩ : ∃ f, L.getD k dFault = f := ⟨_, rfl⟩
        rw [hf] at hfo hc0 hc1
        have HFO : Hid (∀ W, Below w3.heap.size w3 W → FaultsA W W.heap.size (some ⟨fb, off + k * 2, none⟩) [f]) := fun W hW => (hfo.keep hW).more hW.size
        have HFC : Hid (∀ W, Below w3.heap.size w3 W → W.cell? ⟨fb, off + k * 2, none⟩ = some (.int .i64 f.kind) ∧ W.cell? ⟨fb, off + k * 2 + 1, none⟩ = some (.int .i64 f.number)) := fun W hW => ⟨(hW.cell (show (⟨fb, off + k * 2, none⟩ : Addr).block < w3.heap.size from hfb)).trans hc0, (hW.cell (show (⟨fb, off + k * 2 + 1, none⟩ : Addr).block < w3.heap.size from hfb)).trans hc1⟩
        have HST : Hid (singL g level L (k + 1) = if harmB g [f] level = true then singL g level L k ++ [f] else singL g level L k) := by show singL g level L (k + 1) = _; rw [singL, hf]
        have HLN : Hid ((singL g level L k).length ≤ 1000) := by have := singL_len g level L k; have := HLL.out; show _ ≤ _; omega
        have hcv := HCF.out
        have q1 : (0 : Int) ≤ (k : Int) := by omega
        have q2 : (k : Int) ≤ (cf : Int) := by omega
        have q3 : (0 : Int) ≤ (k : Int) + 1 := by omega
        have q4 : (k : Int) + 1 ≤ (L.length : Int) := by omega
        have q5 : (L.length : Int) ≤ (cf : Int) := by omega
        have q6 : ((k : Int) + 1).toNat = k + 1 := by omega
        have q7 : (k : Int) ≤ (k : Int) + 1 := by omega
        have q8 : (k : Int) + 1 ≤ (cf : Int) := by omega
        have q9 : k + 1 - k = 1 := by omega
        have q10 : ¬ cf = k := by omega
        have e1 : IntKind.i64.wrap ((k : Int) + 1) = (k : Int) + 1 := IntWalk.i64_in _ (by have := HLL.out; omega)
        obtain ⟨hb, hhb⟩ : ∃ hb, harmB g [f] level = hb := ⟨_, rfl⟩
        have HH : Hid (∀ W cp, Below w3.heap.size w3 W → Calls Try.prog 84 #[.agg #[.int .i64 g.nodes, .slice A1 g.lines.length c1, .slice A2 g.srcs.length c2, .slice A3 g.users.length c3], .slice (some ⟨fb, off + k * 2, none⟩) 1 cp, .int .i64 level] W fun e w' => e = .returned (.bool hb) ∧ Below W.heap.size W w') := fun W cp hW => by
          have := HHM.out W _ cp f (bel_next HB3.out hW) (HFO.out W hW)
          rw [hhb] at this
          exact this
        rw [hhb] at HST
        clear hhb hf hfo hc0 hc1
        generalize singL g level L k = Q at *
        have HBD : Below w3.heap.size w3 wr.drew := HB.out.drew
        have HBX : Below w1.heap.size w1 wr.drew := HBr.out.drew
        go_upto_region 9 with fail
        cases hb
        · have HS2 : Hid (singL g level L (k + 1) = Q) := HST.out
          go_region_held3 (fun W => W.cell? ⟨w.heap.size, 0, none⟩ = some (.int .i64 g.nodes) ∧ W.cell? ⟨w.heap.size, 1, none⟩ = some (.slice A1 g.lines.length c1) ∧ W.cell? ⟨w.heap.size, 2, none⟩ = some (.slice A2 g.srcs.length c2) ∧ W.cell? ⟨w.heap.size, 3, none⟩ = some (.slice A3 g.users.length c3)) (first | exact (HX.out _ HBX).2 | exact (HX.out _ HB8x).2 | fail) ((first
            | (go_at_call 84; (try rw [if_neg q10]); (with_reducible refine (HH.out _ _ HBD).mono ?_); rintro e w8 ⟨rfl, hb8⟩; have HB8 : Hid (Below w3.heap.size w3 w8) := bel_next HBD hb8; have HB8x : Below w1.heap.size w1 w8 := bel_next HBX hb8; have HV8 : Hid (OutF w8 w3.heap.size V Q) := own_below HV.out (bel_next (Below.refl wr.heap.size wr).drew hb8) (fun b hb => (own_block_lt HV.out b hb).2); clear hb8)
            | fail))
          clear p0 p1 p2 p3
          go_wp2_with fail
          go_roundw
          case rel => exact ⟨k + 1, _, HLT.out, by go_num, rfl, by rw [HS2.out]; exact HV8.out, HB8.out⟩
          case measure => simp [intOf]; have := HLT.out; omega
        · have HS2 : Hid (singL g level L (k + 1) = Q ++ [f]) := HST.out
          go_region_held3 (fun W => W.cell? ⟨w.heap.size, 0, none⟩ = some (.int .i64 g.nodes) ∧ W.cell? ⟨w.heap.size, 1, none⟩ = some (.slice A1 g.lines.length c1) ∧ W.cell? ⟨w.heap.size, 2, none⟩ = some (.slice A2 g.srcs.length c2) ∧ W.cell? ⟨w.heap.size, 3, none⟩ = some (.slice A3 g.users.length c3)) (first | exact (HX.out _ HBX).2 | exact (HX.out _ HB8x).2 | fail) ((first
            | (go_at_call 84; (try rw [if_neg q10]); (with_reducible refine (HH.out _ _ HBD).mono ?_); rintro e w8 ⟨rfl, hb8⟩; have HB8 : Hid (Below w3.heap.size w3 w8) := bel_next HBD hb8; have HB8x : Below w1.heap.size w1 w8 := bel_next HBX hb8; have HV8 : Hid (OutF w8 w3.heap.size V Q) := own_below HV.out (bel_next (Below.refl wr.heap.size wr).drew hb8) (fun b hb => (own_block_lt HV.out b hb).2); clear hb8)
            | fail))
          clear p0 p1 p2 p3
          obtain ⟨d0, d1⟩ := HFC.out w8 HB8.out
          have hbs := HB8.out.size
          have HA : Hid (OutF (w8.alloc (.cells #[.int .i64 f.kind, .int .i64 f.number] 41)) w3.heap.size V Q) := own_below HV8.out ((Below.refl _ _).alloc (Nat.le_refl _) _) (fun b hb => (own_block_lt HV8.out b hb).2)
          go_wp2_with (at_builtin; refine app_fault _ rfl _ _ rfl w3.heap.size V Q rfl HA.out w8.heap.size f rfl (heap_alloc_new w8 _) HLN.out (by simp; omega) ?_; intro v7 w9 hO9 hg9; have HO9 := Lib.hid hO9; have HB9 : Hid (Below w3.heap.size w3 w9) := (HB8.out.alloc HB8.out.size _).grown hg9 (by simp; omega) (fun b hb => (own_block_lt HV8.out b hb).1); clear hO9 hg9)
          go_roundw
          case rel => exact ⟨k + 1, _, HLT.out, by go_num, rfl, by rw [HS2.out]; exact HO9.out, HB9.out⟩
          case measure => simp [intOf]; have := HLT.out; omega
      · obtain rfl : k = L.length := by omega
        go_wp2_with fail
        go_ret2
        exact ⟨(HX.out _ HBr.out).1, .inr ⟨HE.out, n, V, HGO.out, rfl, by rw [HLE.out]; exact HV.out.base (by have := HB3.out.size; have := HS1.out; omega)⟩⟩
  · have hz' : (E != 0) = true := by simpa using hz
    have HZN : Hid (E ≠ 0) := hz
    clear hE hz
    go_enter Try.func49, Try.ntmps49
    go_wp2_with (go_at_call 82; refine (HCK.out _ (HX.out _ (Below.refl _ _)).1).mono ?_; rintro e w2 ⟨rfl, hb2⟩; have HB2 := Lib.hid hb2; clear hb2 p0 p1 p2 p3)
    go_ret2
    exact ⟨(HX.out _ HB2.out).1, .inl ⟨by rw [HE.out]; exact HZN.out, by rw [HE.out]; rfl⟩⟩
end Go.Proofs.Ytegclodchhcbaaa
