/- A copy of frames of the call's own. -/
import Derived.Test.YtlbbhlkbhegegaaFrm
import Derived.Test.YtlbbhlkbhegegaaOwn
import Derived.Test.YtlbbhlkbhegegaaProg
namespace Go.Proofs.Ytlbbhlkbhegegaa
open Go.RowKit

def OwnFr (w : World) (g : Nat) (l : List MFrame) : Prop := OwnF w g 41 (l.length * 5) (fun p => frameCell l (p / 5) (p % 5))
theorem OwnFr.frames {w : World} {g : Nat} {l : List MFrame} (h : OwnFr w g l) (hl : l.length ≤ 1000) : FramesA w w.heap.size (some ⟨g, 0, none⟩) l := by
  refine ⟨by unfold maxLen; omega, fun hn => ⟨g, 0, rfl, OwnF.lt h, fun i j hi hj => ?_⟩⟩
  have h1 := OwnF.cell h (j := i * 5 + j) (by omega)
  rw [Nat.zero_add, h1]
  rw [show (i * 5 + j) / 5 = i by omega, show (i * 5 + j) % 5 = j by omega]
theorem ownF_of_row {w : World} {base g n cap size T : Nat} {xs : List Value} (h : w.ownsRow base T size (.slice (some ⟨g, 0, none⟩) n cap) n xs) (_ : 0 < n) : base ≤ g ∧ n ≤ cap ∧ OwnF w g T (n * size) (fun j => xs.getD j undef) := by
  obtain ⟨hl, h⟩ := h
  rcases h with ⟨hv, _⟩ | ⟨g', cap', cur, hv, hb, hh, hn, _, hsz, htk⟩
  · cases hv
  · injection hv with hA _ hc
    injection hA with hA
    injection hA with hA
    subst hA
    subst hc
    have hle : n * size ≤ cap * size := Nat.mul_le_mul_right _ hn
    refine ⟨hb, hn, cur, hh, by omega, fun j hj => ?_⟩
    have hj' : j < xs.length := by omega
    have h1 : xs[j]? = (cur.toList.take (n * size))[j]? := by rw [htk]
    rw [List.getElem?_take, if_pos hj] at h1
    show _ = some (xs.getD j undef)
    rw [List.getD_eq_getElem?_getD, List.getElem?_eq_getElem hj']
    rw [List.getElem?_eq_getElem hj'] at h1
    rw [← Array.getElem?_toList, ← h1]
    rfl
theorem info_frame : (Try.prog.info? 41).map (fun i => (i.zero, i.size, i.bytes)) = some (some (.agg #[.int .i64 0, .int .i64 0, .int .i64 0, .int .i64 0, .int .i64 0]), 5, 40) := by kernel_rfl
theorem under_frames : Try.prog.underlying 34 = some (.slice 41) := by kernel_rfl
theorem add_none' (b off k : Nat) : (Addr.add ⟨b, off, none⟩ k) = ⟨b, off + k, none⟩ := by
  unfold Addr.add
  by_cases h : k = 0 <;> simp [h]
theorem frameCell_one (l : List MFrame) (i j : Nat) : (frameCell l i j).oneCell' = true := by
  unfold frameCell
  simp only
  repeat' split
  all_goals rfl
section
variable {ops : Array Oper} {rest : List Oper} {o : Oper} {a : Act} {Q : Exit → Act → World → Prop}
theorem app_frames (w : World) (hg : o.guard = none) (s x : Operand) (ho : o.op = .call { callee := .builtin .append, args := #[s, x], argTypes := #[34, 34] }) (hs : a.eval s = .slice none 0 0)
    (A : Option Addr) (cap : Nat) (l : List MFrame) (hx : a.eval x = .slice A l.length cap) (h : FramesA w w.heap.size A l) (h0 : 0 < l.length) (hlen : l.length ≤ 1000)
    (hK : ∀ g cap' w', OwnFr w' g l → w.heap.size ≤ g → l.length ≤ cap' → Below w.heap.size w w' → wpList Try.prog ops Q rest (a.put o.dst (.slice (some ⟨g, 0, none⟩) l.length cap')) w') : wpList Try.prog ops Q (o :: rest) a w := by
  obtain ⟨i0, hi, hz0, hz1, hz2⟩ := info_parts info_frame
  obtain ⟨b, off, rfl, hb, hc⟩ := h.2 h0
  have hnl : ((List.range (l.length * 5)).map fun p => frameCell l (p / 5) (p % 5)).length = l.length * 5 := by simp
  refine wpList_append_own w hg s x 34 ho w.heap.size 41 i0 _ 5 40 under_frames hi hz0 hz1 hz2 rfl (by decide) _ 0 [] hs (World.ownsRow_nil w w.heap.size 41 5) ⟨b, off, none⟩ l.length cap ((List.range (l.length * 5)).map fun p => frameCell l (p / 5) (p % 5)) hx hnl ?_ ?_ (by unfold maxLen; omega) (by omega) (Nat.le_refl _) (fun v' w' h1 h2 h3 => ?_)
  · intro j u hj
    have hjl : j < l.length * 5 := by
      rcases Nat.lt_or_ge j (l.length * 5) with h1 | h1
      · exact h1
      · rw [List.getElem?_eq_none (by omega)] at hj; cases hj
    simp only [List.getElem?_map, List.getElem?_range hjl, Option.map_some, Option.some.injEq] at hj
    rw [← hj]
    have := hc (j / 5) (j % 5) (by omega) (by omega)
    rw [add_none']
    rw [show off + j / 5 * 5 + j % 5 = off + j by omega] at this
    exact this
  · intro u hu
    obtain ⟨p, _, rfl⟩ := List.mem_map.1 hu
    exact frameCell_one _ _ _
  · rw [Nat.zero_add] at h1
    obtain ⟨hl', h1'⟩ := id h1
    rcases h1' with ⟨hv, _⟩ | ⟨g, cap', cur, hv, r⟩
    · have := (h3.1 hv).2
      omega
    · subst hv
      obtain ⟨hb1, hb2, ho1⟩ := ownF_of_row h1 h0
      refine hK g cap' w' (ho1.congr fun p hp => ?_) hb1 hb2 ((Below.refl _ _).grown h2 (Nat.le_refl _) (fun k hk => by cases hk))
      simp [List.getD_eq_getElem?_getD, hp]
end
/-- one field of one frame of the copy is written -/
theorem OwnFr.set {w : World} {g : Nat} {l : List MFrame} (h : OwnFr w g l) {i j : Nat} (x : Int) {f f' : MFrame} (hf : l[i]? = some f) (hj : j < 5) (hx : frameCell [f'] 0 j = .int .i64 x) (ho : ∀ m, m < 5 → m ≠ j → frameCell [f'] 0 m = frameCell [f] 0 m) :
    OwnFr (w.setCell ⟨g, i * 5 + j, none⟩ (.int .i64 x)) g (l.set i f') := by
  have hil : i < l.length := by
    rcases Nat.lt_or_ge i l.length with h1 | h1
    · exact h1
    · rw [List.getElem?_eq_none h1] at hf; cases hf
  unfold OwnFr
  rw [List.length_set]
  refine (OwnF.set h (i * 5 + j) (.int .i64 x)).congr fun p hp => ?_
  have hcell : ∀ q m, frameCell l q m = frameCell [l.getD q ⟨0, 0, 0, 0, 0⟩] 0 m := fun q m => rfl
  have hcell' : ∀ q m, frameCell (l.set i f') q m = frameCell [(l.set i f').getD q ⟨0, 0, 0, 0, 0⟩] 0 m := fun q m => rfl
  by_cases hq : p / 5 = i
  · have e1 : (l.set i f').getD (p / 5) ⟨0, 0, 0, 0, 0⟩ = f' := by rw [hq, List.getD_eq_getElem?_getD, List.getElem?_set_self hil]; rfl
    have e2 : l.getD (p / 5) ⟨0, 0, 0, 0, 0⟩ = f := by rw [hq, List.getD_eq_getElem?_getD, hf]; rfl
    rw [hcell', e1, hcell, e2]
    by_cases hm : p % 5 = j
    · rw [if_pos (by omega), hm, hx]
    · rw [if_neg (by omega), ho _ (by omega) hm]
  · rw [if_neg (by omega), hcell', hcell]
    have e1 : (l.set i f').getD (p / 5) ⟨0, 0, 0, 0, 0⟩ = l.getD (p / 5) ⟨0, 0, 0, 0, 0⟩ := by
      rw [List.getD_eq_getElem?_getD, List.getD_eq_getElem?_getD, List.getElem?_set_ne (fun e => hq e.symm)]
    rw [e1]
theorem OwnFr.below {w w' : World} {g B : Nat} {l : List MFrame} (h : OwnFr w g l) (hb : Below B w w') (hg : g < B) : OwnFr w' g l := OwnF.below h hb hg
end Go.Proofs.Ytlbbhlkbhegegaa
