/- A copy of flows of the call's own. -/
import Derived.Test.YtlbbhlkbhegegaaFo
import Derived.Deep.AppendLies
import Derived.Deep.RegionHeld3
namespace Go.Proofs.Ytlbbhlkbhegegaa
open Go.RowKit

def OwnFl (w : World) (g : Nat) (l : List MFlow) (pv : Nat → Option Addr × Nat) : Prop := OwnF w g 47 (l.length * 3) (fun p => flowCell l pv (p / 3) (p % 3))
theorem OwnFl.flows {w : World} {g B : Nat} {l : List MFlow} {pv : Nat → Option Addr × Nat} (h : OwnFl w g l pv) (hB : g < B) (hp : ∀ i, i < l.length → (l.getD i ⟨0, 0, []⟩).path.length ≤ (pv i).2 ∧ IntsA w B (pv i).1 (l.getD i ⟨0, 0, []⟩).path) : FlowsA w B (some ⟨g, 0, none⟩) l := by
  refine ⟨pv, fun _ => ⟨g, 0, rfl, hB, fun i j hi hj => ?_⟩, hp⟩
  have h1 := OwnF.cell h (j := i * 3 + j) (by omega)
  rw [Nat.zero_add, h1]
  rw [show (i * 3 + j) / 3 = i by omega, show (i * 3 + j) % 3 = j by omega]
theorem info_flow : (Try.prog.info? 47).map (fun i => (i.zero, i.size, i.bytes)) = some (some (.agg #[.int .i64 0, .int .i64 0, .slice none 0 0]), 3, 40) := by kernel_rfl
theorem under_flows : Try.prog.underlying 23 = some (.slice 47) := by kernel_rfl
theorem flowCell_one (l : List MFlow) (pv : Nat → Option Addr × Nat) (i j : Nat) : (flowCell l pv i j).oneCell' = true := by
  unfold flowCell
  repeat' split
  all_goals rfl
theorem step_app_flows {ops : Array Oper} {o : Oper} {a : Act} {K : Act → World → Prop} {Q : Exit → Act → World → Prop} {E : Prop} (w : World) (hg : o.guard = none) (s x : Operand) (ho : o.op = .call { callee := .builtin .append, args := #[s, x], argTypes := #[23, 23] }) (hs : a.eval s = .slice none 0 0)
    (A : Option Addr) (cap : Nat) (l : List MFlow) (pv : Nat → Option Addr × Nat) (hx : a.eval x = .slice A l.length cap) (h : SlA w w.heap.size 3 A l.length (flowCell l pv)) (h0 : 0 < l.length) (hlen : l.length ≤ 1000) (H : Nat) (hH : w.heap.size = H)
    (hK : ∀ cap' w', OwnFl w' H l pv → H < w'.heap.size → l.length ≤ cap' → Below H w w' → K (a.put o.dst (.slice (some ⟨H, 0, none⟩) l.length cap')) w') :
    if Region.wanted o (yielded ops a.tmps) = true then Oper.wp Try.prog o a w K Q else E := by
  obtain ⟨i0, hi, hz0, hz1, hz2⟩ := info_parts info_flow
  obtain ⟨b, off, rfl, hb, hc⟩ := h h0
  have hnl : ((List.range (l.length * 3)).map fun p => flowCell l pv (p / 3) (p % 3)).length = l.length * 3 := by simp
  refine step_append_lies w hg s x 23 ho w.heap.size 47 i0 _ 3 40 under_flows hi hz0 hz1 hz2 rfl (by decide) _ 0 [] hs (World.ownsRow_nil w w.heap.size 47 3) ⟨b, off, none⟩ l.length cap ((List.range (l.length * 3)).map fun p => flowCell l pv (p / 3) (p % 3)) hx hnl ?_ ?_ h0 (by unfold maxLen; omega) (by omega) (Nat.le_refl _) H hH (fun g cap' w' h1 h2 h3 h4 => ?_)
  · intro j u hj
    have hjl : j < l.length * 3 := by
      rcases Nat.lt_or_ge j (l.length * 3) with h1 | h1
      · exact h1
      · rw [List.getElem?_eq_none (by omega)] at hj; cases hj
    simp only [List.getElem?_map, List.getElem?_range hjl, Option.map_some, Option.some.injEq] at hj
    rw [← hj]
    have := hc (j / 3) (j % 3) (by omega) (by omega)
    rw [add_none']
    rw [show off + j / 3 * 3 + j % 3 = off + j by omega] at this
    exact this
  · intro u hu
    obtain ⟨p, _, rfl⟩ := List.mem_map.1 hu
    exact flowCell_one _ _ _ _
  · have hgH : g = H := by
      rcases h3 with h3 | h3
      · cases h3
      · exact h3
    subst hgH
    rw [Nat.zero_add] at h1
    obtain ⟨hb1, hb2, ho1⟩ := ownF_of_row h1 h0
    have := hK cap' w' (ho1.congr fun p hp => by simp [List.getD_eq_getElem?_getD, hp]) h4 hb2 (by rw [← hH]; exact (Below.refl _ _).grown h2 (Nat.le_refl _) (fun k hk => by cases hk))
    rw [Nat.zero_add]
    exact this
/-- one number of one flow of the copy is written -/
theorem OwnFl.set {w : World} {g : Nat} {l : List MFlow} {pv : Nat → Option Addr × Nat} (h : OwnFl w g l pv) {i j : Nat} (x : Int) {f f' : MFlow} (hf : l[i]? = some f) (hj : j < 3) (hx : ∀ pw, flowCell [f'] pw 0 j = .int .i64 x) (ho : ∀ pw m, m < 3 → m ≠ j → flowCell [f'] pw 0 m = flowCell [f] pw 0 m) :
    OwnFl (w.setCell ⟨g, i * 3 + j, none⟩ (.int .i64 x)) g (l.set i f') pv := by
  have hil : i < l.length := by
    rcases Nat.lt_or_ge i l.length with h1 | h1
    · exact h1
    · rw [List.getElem?_eq_none h1] at hf; cases hf
  unfold OwnFl
  rw [List.length_set]
  refine (OwnF.set h (i * 3 + j) (.int .i64 x)).congr fun p hp => ?_
  have hcell : ∀ (k : List MFlow) q m, flowCell k pv q m = flowCell [k.getD q ⟨0, 0, []⟩] (fun _ => pv q) 0 m := fun k q m => rfl
  by_cases hq : p / 3 = i
  · have e1 : (l.set i f').getD (p / 3) ⟨0, 0, []⟩ = f' := by rw [hq, List.getD_eq_getElem?_getD, List.getElem?_set_self hil]; rfl
    have e2 : l.getD (p / 3) ⟨0, 0, []⟩ = f := by rw [hq, List.getD_eq_getElem?_getD, hf]; rfl
    rw [hcell (l.set i f'), e1, hcell l, e2]
    by_cases hm : p % 3 = j
    · rw [if_pos (by omega), hm, hx]
    · rw [if_neg (by omega), ho _ _ (by omega) hm]
  · rw [if_neg (by omega), hcell (l.set i f'), hcell l]
    have e1 : (l.set i f').getD (p / 3) ⟨0, 0, []⟩ = l.getD (p / 3) ⟨0, 0, []⟩ := by
      rw [List.getD_eq_getElem?_getD, List.getD_eq_getElem?_getD, List.getElem?_set_ne (fun e => hq e.symm)]
    rw [e1]
end Go.Proofs.Ytlbbhlkbhegegaa
