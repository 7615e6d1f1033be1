/- Walks: the parts of a case, copied. -/
import Derived.Test.YtegclodchhcbaaaLa
namespace Go.Proofs.Ytegclodchhcbaaa
open Go.RowKit
theorem out_empty (w : World) : OutI (w.alloc (.cells #[] 3)) w.heap.size (.slice (some ⟨w.heap.size, 0, none⟩) 0 0) [] := by
  unfold OutI World.ownsRow
  exact ⟨rfl, .inr ⟨_, 0, #[], rfl, Nat.le_refl _, heap_alloc_new w (.cells #[] 3), Nat.le_refl _, Nat.zero_le _, rfl, rfl⟩⟩
set_option maxRecDepth 100000 in
theorem want_any (g : MGrid) (A1 A2 A3 : Option Addr) (c1 c2 c3 : Nat) (A : Option Addr) (cap : Nat) (F : List MFault) (Aw : Option Addr) (wc : Nat) (want : List Int) (w : World) (hw : IntsA w w.heap.size Aw want) (hl : want.length ≤ 100) :
    Calls Try.prog 23 #[.agg (caseC g A1 A2 A3 c1 c2 c3 A cap F Aw wc want)] w fun e w' => ∃ v, e = .returned v ∧ OutI w' w.heap.size v want ∧ Below w.heap.size w w' := by
  unfold caseC
  obtain ⟨w1, hw1⟩ : ∃ w1, w.alloc (.cells #[.int .i64 g.nodes, .slice A1 g.lines.length c1, .slice A2 g.srcs.length c2, .slice A3 g.users.length c3, .slice A F.length cap, .slice Aw want.length wc] 30) = w1 := ⟨_, rfl⟩
  have hx1 : w1.heap[w.heap.size]? = some (.cells #[.int .i64 g.nodes, .slice A1 g.lines.length c1, .slice A2 g.srcs.length c2, .slice A3 g.users.length c3, .slice A F.length cap, .slice Aw want.length wc] 30 (0, 0)) := by rw [← hw1]; exact heap_alloc_new w _
  have p5 := cell_of_row w1 _ 5 _ _ _ hx1
  simp only [List.getElem?_toArray, List.getElem?_cons_succ, List.getElem?_cons_zero] at p5
  have q5 : ∀ o : Obj, (w1.alloc o).cell? ⟨w.heap.size, 5, none⟩ = some (.slice Aw want.length wc) := fun o => (acell w1 o w.heap.size 5 (lt_of_cells hx1)).trans p5
  have Q5 := q5 (.cells #[] 3)
  have HO0 := Lib.hid (out_empty w1)
  have hs1 : w1.heap.size = w.heap.size + 1 := by rw [← hw1]; simp
  have hb1 : Below w.heap.size w w1 := by rw [← hw1]; exact (Below.refl _ _).alloc (Nat.le_refl _) _
  have hb2 : Below w.heap.size w (w1.alloc (.cells #[] 3)) := hb1.alloc hb1.size _
  have HB2 := Lib.hid hb2
  have HS := Lib.hid hs1
  have HW := Lib.hid hw
  clear hs1 hb1 hb2
  rcases Aw with _ | ⟨ab, ao, au⟩
  · obtain rfl : want = [] := by
      rcases want with _ | ⟨x, r⟩
      · rfl
      · obtain ⟨b, off, hA, _⟩ := hw.2 (by simp)
        cases hA
    clear hw
    simp only [List.length_nil] at hw1 hx1 p5 q5 Q5
    go_enter Try.func23, Try.ntmps23
    go_wp2_with fail
    go_ret
    exact ⟨_, rfl, own_base HO0.out (by have := HS.out; omega), HB2.out⟩
  · have hcells : ∀ j, j < want.length → (w1.alloc (.cells #[] 3)).cell? (Addr.add ⟨ab, ao, au⟩ j) = some (.int .i64 (want.getD j 0)) := fun j hj => by
      obtain ⟨b, off, hA, hb, x0⟩ := ((HW.out.below HB2.out (Nat.le_refl _)).more HB2.out.size).at_ hj
      cases hA
      have e : Addr.add ⟨ab, ao, none⟩ j = ⟨ab, ao + j, none⟩ := by
        unfold Addr.add
        split
        · rename_i h0
          simp_all
        · rfl
      rw [e]
      exact x0
    have HCE := Lib.hid hcells
    clear hw hcells
    go_enter Try.func23, Try.ntmps23
    go_wp2_with (at_builtin; refine app_ints _ rfl _ _ rfl w1.heap.size _ [] rfl HO0.out ⟨ab, ao, au⟩ want.length wc want rfl rfl HCE.out (by simp; omega) (by simp) ?_; intro v7 w7 hO7 hg7; have HO7 := Lib.hid hO7; have HG7 := Lib.hid hg7; clear hO7 hg7)
    go_ret
    exact ⟨_, rfl, own_base HO7.out (by have := HS.out; omega), HB2.out.grown HG7.out HB2.out.size (fun b hb => by have := (own_block_lt HO0.out b hb).1; have := HS.out; omega)⟩
end Go.Proofs.Ytegclodchhcbaaa
