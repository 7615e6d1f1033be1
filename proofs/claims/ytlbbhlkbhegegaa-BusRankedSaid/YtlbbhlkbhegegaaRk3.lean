/- Walks: ignitionref04.Ranked. -/
import Derived.Test.YtlbbhlkbhegegaaRk2
import Derived.Test.YtlbbhlkbhegegaaFo
namespace Go.Proofs.Ytlbbhlkbhegegaa
open Go.RowKit

def cells5 (f : MFrame) : List Value := [.int .i64 f.size, .int .i64 f.every, .int .i64 f.jitter, .int .i64 f.due, .int .i64 f.rank]
def OutFr (w : World) (base : Nat) (v : Value) (l : List MFrame) : Prop := w.ownsRow base 41 5 v l.length (l.flatMap cells5)
theorem cells5_len (l : List MFrame) : (l.flatMap cells5).length = l.length * 5 := by
  induction l with
  | nil => rfl
  | cons f r ih => rw [List.flatMap_cons, List.length_append, ih, List.length_cons]; simp [cells5]; omega
theorem cells5_at : ∀ (l : List MFrame) (i j : Nat), i < l.length → j < 5 → (l.flatMap cells5)[i * 5 + j]? = some (frameCell l i j)
  | [], i, j, hi, _ => by simp at hi
  | f :: r, 0, j, _, hj => by
    rw [List.flatMap_cons, List.getElem?_append_left (by simp [cells5]; omega)]
    match j, hj with
    | 0, _ => rfl
    | 1, _ => rfl
    | 2, _ => rfl
    | 3, _ => rfl
    | 4, _ => rfl
  | f :: r, i + 1, j, hi, hj => by
    rw [List.flatMap_cons, List.getElem?_append_right (by simp [cells5]; omega)]
    rw [show (i + 1) * 5 + j - (cells5 f).length = i * 5 + j by simp [cells5]; omega]
    rw [cells5_at r i j (by simpa using hi) hj]
    rfl
theorem OutFr.nil (w : World) (base : Nat) : OutFr w base (.slice none 0 0) [] := World.ownsRow_nil w base 41 5
theorem OutFr.reads {w : World} {base : Nat} {v : Value} {l : List MFrame} (h : OutFr w base v l) : ∃ A cap, v = .slice A l.length cap ∧ l.length ≤ cap ∧ FramesA w w.heap.size A l := by
  obtain ⟨hl, h'⟩ := id h
  rcases h' with ⟨hv, h0⟩ | ⟨g, cap, cur, hv, hb, hh, hn, hm, hsz, htk⟩
  · exact ⟨none, 0, by rw [hv, h0], by omega, by omega, fun hn => by omega⟩
  · subst hv
    refine ⟨_, cap, rfl, hn, by omega, fun h0 => ?_⟩
    obtain ⟨_, _, ho⟩ := ownF_of_row h h0
    refine ⟨g, 0, rfl, ho.lt, fun i j hi hj => ?_⟩
    have h1 := ho.cell (j := i * 5 + j) (by omega)
    rw [Nat.zero_add, h1, List.getD_eq_getElem?_getD, cells5_at l i j hi hj]
    rfl
theorem OutFr.lenV {w : World} {base : Nat} {v : Value} {l : List MFrame} (h : OutFr w base v l) : ∃ A cap, v = .slice A l.length cap ∧ l.length ≤ cap := by
  obtain ⟨hl, h'⟩ := id h
  rcases h' with ⟨hv, h0⟩ | ⟨g, cap, cur, hv, hb, hh, hn, hm, hsz, htk⟩
  · exact ⟨none, 0, by rw [hv, h0], by omega⟩
  · exact ⟨_, cap, hv, hn⟩
section
variable {ops : Array Oper} {rest : List Oper} {o : Oper} {a : Act} {Q : Exit → Act → World → Prop}
theorem app_frame (w : World) (hg : o.guard = none) (s x : Operand) (ho : o.op = .call { callee := .builtin .append, args := #[s, x], argTypes := #[34, 34] }) (base : Nat) (v : Value) (l : List MFrame)
    (hs : a.eval s = v) (hown : OutFr w base v l) (wb : Nat) (f : MFrame) (hx : a.eval x = .slice (some ⟨wb, 0, none⟩) 1 1) (hy : ∀ j u, (cells5 f)[j]? = some u → w.cell? ⟨wb, j, none⟩ = some u) (hlen : l.length ≤ 1000) (hbase : base ≤ w.heap.size)
    (hK : ∀ v' w', OutFr w' base v' (l ++ [f]) → w.grownBy w' v.ownBlock → wpList Try.prog ops Q rest (a.put o.dst v') w') : wpList Try.prog ops Q (o :: rest) a w := by
  obtain ⟨i0, hi, hz0, hz1, hz2⟩ := info_parts info_frame
  refine wpList_append_own w hg s x 34 ho base 41 i0 _ 5 40 under_frames hi hz0 hz1 hz2 rfl (by decide) v l.length _ hs hown ⟨wb, 0, none⟩ 1 1 (cells5 f) hx rfl ?_ ?_ (by unfold maxLen; omega) (by omega) hbase (fun v' w' h1 h2 _ => hK v' w' ?_ h2)
  · intro j u hj
    rw [add_none', Nat.zero_add]
    exact hy j u hj
  · intro u hu
    simp only [cells5, List.mem_cons, List.not_mem_nil, or_false] at hu
    rcases hu with rfl | rfl | rfl | rfl | rfl <;> rfl
  · unfold OutFr
    rw [List.length_append, List.flatMap_append]
    simpa using h1
end
theorem take_ranked {l : List MFrame} {R : Nat → Int} {k : Nat} {f : MFrame} (h : l[k]? = some f) : (rankedL l R).take (k + 1) = (rankedL l R).take k ++ [rerank f (R k)] := by
  rw [List.take_add_one, rankedL_at h]; rfl
set_option maxRecDepth 100000 in
set_option maxHeartbeats 2000000 in
theorem ranked_any (A : Option Addr) (cap : Nat) (l : List MFrame) (G : Option Addr) (rcap : Nat) (rs : List Int) (R : Nat → Int) (w : World) (h : FramesA w w.heap.size A l) (hl : l.length ≤ 40) (hG : IntsA w w.heap.size G rs) (hrs : l.length ≤ rs.length) (hR : ∀ k, k < l.length → rs.getD k 0 = R k) :
    Calls Try.prog 35 #[.slice A l.length cap, .slice G rs.length rcap] w fun e w' => ∃ A' cap', e = .returned (.slice A' l.length cap') ∧ l.length ≤ cap' ∧ FramesA w' w'.heap.size A' (rankedL l R) ∧ Below w.heap.size w w' := by
  have HRR := Lib.hid hR
  clear hR
  go_enter Try.func35, Try.ntmps35
  go_wp2_with fail
  go_loopw [5, 6] (fun v i wr => ∃ k : Nat, k ≤ l.length ∧ i = .int .i64 k ∧ OutFr wr w.heap.size v ((rankedL l R).take k) ∧ Below w.heap.size w wr) (fun _ i _ => l.length - (intOf i).toNat)
  case atStart => exact ⟨0, Nat.zero_le _, rfl, OutFr.nil _ _, Below.refl _ _⟩
  case round =>
    obtain ⟨k, hk, rfl, hOut, hbw⟩ := hrel
    have hlen : ((rankedL l R).take k).length ≤ 40 := by rw [List.length_take, rankedL_len]; omega
    have hlen2 : Hid (((rankedL l R).take k).length = k) := by show _ = _; rw [List.length_take, rankedL_len]; omega
    have hsz := hbw.size
    by_cases hlt : k < l.length
    · obtain ⟨f, b, off, hf, rfl, hbb, c0, c1, c2, c3, c4⟩ := (h.keep hbw).at_ hlt
      have HSN := Lib.hid (take_ranked (R := R) hf)
      clear hf
      obtain ⟨gb, go, rfl, hgb, hgc⟩ := (hG.below hbw (Nat.le_refl _)).at_ (k := k) (by omega)
      rw [HRR.out k hlt] at hgc
      generalize R k = rk at *
      generalize (rankedL l R).take k = L at *
      obtain ⟨Ab, cb, rfl, hcb⟩ := hOut.lenV
      have hb1 : Below w.heap.size wr (wr.alloc (.cells #[.int .i64 f.size, .int .i64 f.every, .int .i64 f.jitter, .int .i64 f.due, .int .i64 f.rank] 41)) := (Below.refl _ _).alloc hsz _
      have hgc1 := (bcell hb1 gb (go + k) hgb).trans hgc
      clear hgc
      have hO2 : OutFr ((wr.alloc (.cells #[.int .i64 f.size, .int .i64 f.every, .int .i64 f.jitter, .int .i64 f.due, .int .i64 rk] 41)).alloc (.cells #[.int .i64 f.size, .int .i64 f.every, .int .i64 f.jitter, .int .i64 f.due, .int .i64 rk] 41)) w.heap.size _ _ := World.ownsRow.alloc (World.ownsRow.alloc hOut _) _
      have hcl : ∀ j u, (cells5 (rerank f rk))[j]? = some u → ((wr.alloc (.cells #[.int .i64 f.size, .int .i64 f.every, .int .i64 f.jitter, .int .i64 f.due, .int .i64 rk] 41)).alloc (.cells #[.int .i64 f.size, .int .i64 f.every, .int .i64 f.jitter, .int .i64 f.due, .int .i64 rk] 41)).cell? ⟨wr.heap.size + 1, j, none⟩ = some u := fun j u hj => by
        rw [newcell' (by simp), List.getElem?_toArray]
        exact hj
      have HCL := Lib.hid hcl
      clear hcl
      go_wp2_with (at_builtin; refine app_frame _ rfl _ _ rfl w.heap.size _ _ rfl hO2 (wr.heap.size + 1) (rerank f rk) rfl HCL.out (by omega) (by simp; omega) ?_; intro v' w6 hO6 hg6)
      all_goals
        go_roundw
        case rel =>
          refine ⟨k + 1, by omega, by go_num, by rw [HSN.out]; exact hO6, ?_⟩
          exact hbw.trans ((((Below.refl _ _).alloc hsz _).alloc (by simp; omega) _).grown hg6 (by simp; omega) (fun g hg => (own_block_lt hO2 g hg).1))
        case measure => simp [intOf]; omega
    · obtain rfl : k = l.length := by omega
      rw [List.take_of_length_le (by rw [rankedL_len]; exact Nat.le_refl _)] at *
      obtain ⟨A', cap', rfl, hc', hF'⟩ := hOut.reads
      rw [rankedL_len] at *
      go_wp2_with fail
      go_ret
      exact ⟨A', cap', rfl, hc', hF', hbw⟩
end Go.Proofs.Ytlbbhlkbhegegaa
