/- Walks: faults appended to a row of the call's own; all faults: the reference's. Printed by gen_sx8.py. -/
import Derived.Test.YtegclodchhcbaaaFx
namespace Go.Proofs.Ytegclodchhcbaaa
open Go.RowKit

section
variable {ops : Array Oper} {rest : List Oper} {o : Oper} {a : Act} {Q : Exit → Act → World → Prop}
set_option maxRecDepth 100000 in
theorem app_fault (w : World) (hg : o.guard = none) (s x : Operand) (ho : o.op = .call { callee := .builtin .append, args := #[s, x], argTypes := #[27, 27] }) (base : Nat) (v : Value) (F : List MFault)
    (hs : a.eval s = v) (hown : OutF w base v F) (xb : Nat) (f : MFault) (hx : a.eval x = .slice (some ⟨xb, 0, none⟩) 1 1) (hh : w.heap[xb]? = some (.cells #[.int .i64 f.kind, .int .i64 f.number] 41 (0, 0))) (hl : F.length ≤ 1000) (hbase : base ≤ w.heap.size)
    (hK : ∀ v' w', OutF w' base v' (F ++ [f]) → w.grownBy w' v.ownBlock → wpList Try.prog ops Q rest (a.put o.dst v') w') : wpList Try.prog ops Q (o :: rest) a w := by
  obtain ⟨i0, hi, hz0, hz1, hz2⟩ := info_parts info_fault
  refine wpList_append_own w hg s x 27 ho base 41 i0 _ 2 16 copyF.und hi hz0 hz1 hz2 rfl (by decide) v F.length _ hs hown ⟨xb, 0, none⟩ 1 1 [.int .i64 f.kind, .int .i64 f.number] hx rfl (fun j u hj => ?_) (fun u hu => ?_) (by unfold maxLen; omega) (by omega) hbase (fun v' w' h1 h2 _ => hK v' w' ?_ h2)
  · rw [add_none0, Nat.zero_add, cell_of_row w xb j _ 41 _ hh]
    rw [List.getElem?_toArray]
    exact hj
  · simp at hu
    rcases hu with rfl | rfl <;> rfl
  · rw [faultCells_app] at h1
    unfold OutF
    rw [List.length_append] at h1 ⊢
    exact h1
end
theorem OutF.base {w : World} {B B' : Nat} {v : Value} {F : List MFault} (h : OutF w B v F) (hb : B' ≤ B) : OutF w B' v F := own_base h hb
def kindL (kind : Int) (k : Nat) : List MFault := (List.range k).map fun i : Nat => ⟨kind, i⟩
theorem kindL_len (kind : Int) (k : Nat) : (kindL kind k).length = k := by unfold kindL; simp
theorem kindL_step (kind : Int) (k : Nat) : kindL kind (k + 1) = kindL kind k ++ [⟨kind, k⟩] := by unfold kindL; rw [List.range_succ, List.map_append]; rfl
/-- every single fault of a grid -/
def allF (g : MGrid) (n : Nat) : List MFault := kindL 1 g.srcs.length ++ kindL 2 g.lines.length ++ kindL 3 n
set_option maxRecDepth 100000 in
set_option maxHeartbeats 8000000 in
theorem rFaults_any (g : MGrid) (A1 A2 A3 : Option Addr) (c1 c2 c3 : Nat) (w : World) (n : Nat) (hn : g.nodes = n) (hk1 : g.srcs.length ≤ 100) (hk2 : g.lines.length ≤ 100) (hk3 : n ≤ 100) :
    Calls Try.prog 83 #[.agg (gridC g A1 A2 A3 c1 c2 c3)] w fun e w' => ∃ v, e = .returned v ∧ OutF w' w.heap.size v (allF g n) ∧ Below w.heap.size w w' := by
  unfold gridC allF
  rw [hn]
  clear hn
  obtain ⟨w1, hw1⟩ : ∃ w1, w.alloc (.cells #[.int .i64 n, .slice A1 g.lines.length c1, .slice A2 g.srcs.length c2, .slice A3 g.users.length c3] 26) = w1 := ⟨_, rfl⟩
  have hb1 : Below w.heap.size w w1 := by rw [← hw1]; exact (Below.refl _ _).alloc (Nat.le_refl _) _
  have hs1 : w1.heap.size = w.heap.size + 1 := by rw [← hw1]; simp
  have hx1 : w1.heap[w.heap.size]? = some (.cells #[.int .i64 n, .slice A1 g.lines.length c1, .slice A2 g.srcs.length c2, .slice A3 g.users.length c3] 26 (0, 0)) := by rw [← hw1]; exact heap_alloc_new w _
  have HX : Hid (∀ W, Below w1.heap.size w1 W → Below w.heap.size w W ∧ W.cell? ⟨w.heap.size, 0, none⟩ = some (.int .i64 n) ∧ W.cell? ⟨w.heap.size, 1, none⟩ = some (.slice A1 g.lines.length c1) ∧ W.cell? ⟨w.heap.size, 2, none⟩ = some (.slice A2 g.srcs.length c2) ∧ W.cell? ⟨w.heap.size, 3, none⟩ = some (.slice A3 g.users.length c3)) := fun W hW => by
    have h1 := (hW.block w.heap.size (by omega)).trans hx1
    exact ⟨hb1.trans (hW.mono (by omega)), cell_of_row W _ 0 _ _ _ h1, cell_of_row W _ 1 _ _ _ h1, cell_of_row W _ 2 _ _ _ h1, cell_of_row W _ 3 _ _ _ h1⟩
  have HS1 := Lib.hid hs1
  have HC0 : Hid (Below w1.heap.size w1 w1) := Below.refl _ _
  have HO0 : Hid (OutF w1 w1.heap.size (.slice none 0 0) (kindL 1 0)) := ⟨rowL_len _ _ _, .inl ⟨rfl, rfl⟩⟩
  clear hb1 hx1 hs1
  go_enter Try.func83, Try.ntmps83
  go_wp2_with fail
  go_loopw [4, 3] (fun vi vo wr => ∃ (k : Nat) (V : Value), k ≤ g.srcs.length ∧ vi = .int .i64 k ∧ V = vo ∧ Hid (OutF wr w1.heap.size V (kindL 1 k)) ∧ Hid (Below w1.heap.size w1 wr)) (fun vi _ _ => g.srcs.length - (intOf vi).toNat)
  case atStart => exact ⟨0, _, Nat.zero_le _, rfl, rfl, HO0.out, HC0.out⟩
  case round =>
    clear HO0 HC0
    obtain ⟨k, V, hk, rfl, rfl, HV, HB⟩ := hrel
    rename World => wr
    obtain ⟨_, p0, p1, p2, p3⟩ := HX.out wr HB.out
    by_cases hlt : k < g.srcs.length
    · have HLT := Lib.hid hlt
      have HST : Hid (kindL 1 (k + 1) = (kindL 1 k) ++ [⟨1, k⟩]) := by show _ = _; first | exact kindL_step _ _ | (rw [kindL_step]; simp only [List.append_assoc])
      have hln : (kindL 1 k).length ≤ 1000 := by (try rw [List.length_append]); (try rw [List.length_append]); (try rw [List.length_append]); simp only [kindL_len]; omega
      have HLN := Lib.hid hln
      clear hln
      generalize kindL 1 k = L at *
      have hbs := HB.out.size
      have HA : Hid (OutF (wr.alloc (.cells #[.int .i64 1, .int .i64 k] 41)) w1.heap.size V L) := own_below HV.out ((Below.refl _ _).alloc (Nat.le_refl _) _) (fun b hb => (own_block_lt HV.out b hb).2)
      go_wp2_with (at_builtin; refine app_fault _ rfl _ _ rfl w1.heap.size V L rfl HA.out wr.heap.size ⟨1, k⟩ rfl (heap_alloc_new wr _) HLN.out (by simp; omega) ?_; intro v7 w7 hO7 hg7; have HO7 := Lib.hid hO7; have HB7 : Hid (Below w1.heap.size w1 w7) := (HB.out.alloc HB.out.size _).grown hg7 (by simp; omega) (fun b hb => (own_block_lt HV.out b hb).1); clear hO7 hg7)
      go_roundw
      case rel => exact ⟨k + 1, _, HLT.out, by go_num, rfl, by rw [HST.out]; exact HO7.out, HB7.out⟩
      case measure => simp [intOf]; have := HLT.out; omega
    · obtain rfl : k = g.srcs.length := by omega
      clear hlt hk
      have HO0 : Hid (OutF wr w1.heap.size V (kindL 1 g.srcs.length ++ kindL 2 0)) := by show OutF _ _ _ _; rw [show kindL 2 0 = [] from rfl, List.append_nil]; exact HV.out
      have HC0 := HB
      go_wp2_with fail
      clear p0 p1 p2 p3 HV HB
      go_loopw [5, 3] (fun vi vo wr => ∃ (k : Nat) (V : Value), k ≤ g.lines.length ∧ vi = .int .i64 k ∧ V = vo ∧ Hid (OutF wr w1.heap.size V (kindL 1 g.srcs.length ++ kindL 2 k)) ∧ Hid (Below w1.heap.size w1 wr)) (fun vi _ _ => g.lines.length - (intOf vi).toNat)
      case atStart => exact ⟨0, _, Nat.zero_le _, rfl, rfl, HO0.out, HC0.out⟩
      case round =>
        clear HO0 HC0
        obtain ⟨k, V, hk, rfl, rfl, HV, HB⟩ := hrel
        rename World => wr
        obtain ⟨_, p0, p1, p2, p3⟩ := HX.out wr HB.out
        by_cases hlt : k < g.lines.length
        · have HLT := Lib.hid hlt
          have HST : Hid (kindL 1 g.srcs.length ++ kindL 2 (k + 1) = (kindL 1 g.srcs.length ++ kindL 2 k) ++ [⟨2, k⟩]) := by show _ = _; first | exact kindL_step _ _ | (rw [kindL_step]; simp only [List.append_assoc])
          have hln : (kindL 1 g.srcs.length ++ kindL 2 k).length ≤ 1000 := by (try rw [List.length_append]); (try rw [List.length_append]); (try rw [List.length_append]); simp only [kindL_len]; omega
          have HLN := Lib.hid hln
          clear hln
          generalize kindL 1 g.srcs.length ++ kindL 2 k = L at *
          have hbs := HB.out.size
          have HA : Hid (OutF (wr.alloc (.cells #[.int .i64 2, .int .i64 k] 41)) w1.heap.size V L) := own_below HV.out ((Below.refl _ _).alloc (Nat.le_refl _) _) (fun b hb => (own_block_lt HV.out b hb).2)
          go_wp2_with (at_builtin; refine app_fault _ rfl _ _ rfl w1.heap.size V L rfl HA.out wr.heap.size ⟨2, k⟩ rfl (heap_alloc_new wr _) HLN.out (by simp; omega) ?_; intro v7 w7 hO7 hg7; have HO7 := Lib.hid hO7; have HB7 : Hid (Below w1.heap.size w1 w7) := (HB.out.alloc HB.out.size _).grown hg7 (by simp; omega) (fun b hb => (own_block_lt HV.out b hb).1); clear hO7 hg7)
          go_roundw
          case rel => exact ⟨k + 1, _, HLT.out, by go_num, rfl, by rw [HST.out]; exact HO7.out, HB7.out⟩
          case measure => simp [intOf]; have := HLT.out; omega
        · obtain rfl : k = g.lines.length := by omega
          clear hlt hk
          have HO0 : Hid (OutF wr w1.heap.size V (kindL 1 g.srcs.length ++ kindL 2 g.lines.length ++ kindL 3 0)) := by show OutF _ _ _ _; rw [show kindL 3 0 = [] from rfl, List.append_nil]; exact HV.out
          have HC0 := HB
          go_wp2_with fail
          clear p0 p1 p2 p3 HV HB
          go_loopw [6, 3] (fun vi vo wr => ∃ (k : Nat) (V : Value), k ≤ n ∧ vi = .int .i64 k ∧ V = vo ∧ Hid (OutF wr w1.heap.size V (kindL 1 g.srcs.length ++ kindL 2 g.lines.length ++ kindL 3 k)) ∧ Hid (Below w1.heap.size w1 wr)) (fun vi _ _ => n - (intOf vi).toNat)
          case atStart => exact ⟨0, _, Nat.zero_le _, rfl, rfl, HO0.out, HC0.out⟩
          case round =>
            clear HO0 HC0
            obtain ⟨k, V, hk, rfl, rfl, HV, HB⟩ := hrel
            rename World => wr
            obtain ⟨_, p0, p1, p2, p3⟩ := HX.out wr HB.out
            by_cases hlt : k < n
            · have HLT := Lib.hid hlt
              have HST : Hid (kindL 1 g.srcs.length ++ kindL 2 g.lines.length ++ kindL 3 (k + 1) = (kindL 1 g.srcs.length ++ kindL 2 g.lines.length ++ kindL 3 k) ++ [⟨3, k⟩]) := by show _ = _; first | exact kindL_step _ _ | (rw [kindL_step]; simp only [List.append_assoc])
              have hln : (kindL 1 g.srcs.length ++ kindL 2 g.lines.length ++ kindL 3 k).length ≤ 1000 := by (try rw [List.length_append]); (try rw [List.length_append]); (try rw [List.length_append]); simp only [kindL_len]; omega
              have HLN := Lib.hid hln
              clear hln
              generalize kindL 1 g.srcs.length ++ kindL 2 g.lines.length ++ kindL 3 k = L at *
              have hbs := HB.out.size
              have HA : Hid (OutF (wr.alloc (.cells #[.int .i64 3, .int .i64 k] 41)) w1.heap.size V L) := own_below HV.out ((Below.refl _ _).alloc (Nat.le_refl _) _) (fun b hb => (own_block_lt HV.out b hb).2)
              go_wp2_with (at_builtin; refine app_fault _ rfl _ _ rfl w1.heap.size V L rfl HA.out wr.heap.size ⟨3, k⟩ rfl (heap_alloc_new wr _) HLN.out (by simp; omega) ?_; intro v7 w7 hO7 hg7; have HO7 := Lib.hid hO7; have HB7 : Hid (Below w1.heap.size w1 w7) := (HB.out.alloc HB.out.size _).grown hg7 (by simp; omega) (fun b hb => (own_block_lt HV.out b hb).1); clear hO7 hg7)
              go_roundw
              case rel => exact ⟨k + 1, _, HLT.out, by go_num, rfl, by rw [HST.out]; exact HO7.out, HB7.out⟩
              case measure => simp [intOf]; have := HLT.out; omega
            · obtain rfl : k = n := by omega
              clear hlt hk
              go_wp2_with fail
              go_ret
              exact ⟨_, rfl, HV.out.base (by have := HS1.out; omega), (HX.out _ HB.out).1⟩
end Go.Proofs.Ytegclodchhcbaaa
