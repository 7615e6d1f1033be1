/- Arguments opened: a test; how long a case's row of tests may be. -/
import Derived.Test.YtonpemikodajdaaDoorOg
import Derived.SizedLaws
namespace Go.Proofs.YtonpemikodajdaaDoor
open Go.RowKit Go.ChangeShapes Go.WideShapes Go.ChangeAt Go.Deep Go.Joins

section
variable {H : Type} {enc : TypeId × Value → H} {w : World} {base : Nat} {spare : Nat → Bool} {held : Bool}
set_option maxRecDepth 100000 in
theorem open_probe {r : Reach} {b0 : Nat} {v : Value} {d : DataW H} {p : List MemPlace} (hv : Value.okWide Tryd.prog w r b0 50 v) (h : DataW.Trod enc Tryd.prog w base spare held 50 v d p) :
    ∃ (A : Option Addr) (cap : Nat) (n : MProbe), v = .agg #[.int .i64 n.cost, .slice A n.outs.length cap] ∧ n.outs.length ≤ cap ∧ IntsA w w.heap.size A n.outs := by
  obtain ⟨v0, v1, y0, y1, fuel, rfl, _, _, h0, h1⟩ := open_agg2 (P := Tryd.prog) (t := 50) Tryd.underlying50 (by kernel_rfl) (by kernel_rfl) hv h
  have h9 := (numV_of Tryd.underlying3 h0).1
  obtain ⟨A, cap, l, hcs, hl, _, hI, _⟩ := open_intsA Tryd.underlying24 Tryd.underlying3 (by kernel_rfl) h1
  injection hcs with hcs
  subst hcs
  exact ⟨A, cap, ⟨numV v0, l⟩, by rw [← h9], hl, hI⟩
set_option maxRecDepth 100000 in
theorem case_size {r : Reach} {b0 : Nat} {v : Value} {d : DataW H} {p : List MemPlace} (hv : Value.okWide Tryd.prog w r b0 36 v) (h : DataW.Trod enc Tryd.prog w base spare held 36 v d p) {v1 : Value} {A2 : Option Addr} {n2 c2 : Nat} (he : v = .agg #[v1, .slice A2 n2 c2])
    {ts : List TypeId} {ds : List (DataW H)} {j : Nat} (hw : (DataW.weightsEach Tryd.prog ts ds).all (· ≤ reachBytes) = true) (ht : ts[j]? = some 36) (hd : ds[j]? = some d) : n2 * 32 ≤ 140737488351232 := by
  obtain ⟨u0, u1, y0, y1, fuel, hv2, hd2, _, h0, h1⟩ := open_agg2 (P := Tryd.prog) (t := 36) Tryd.underlying36 (by kernel_rfl) (by kernel_rfl) hv h
  rw [hv2] at he
  injection he with he
  have hu1 : u1 = .slice A2 n2 c2 := by
    have := congrArg (fun a : Array Value => a[1]?) he
    simpa using this
  subst hu1
  have hb : Tryd.prog.bytesOf 50 = 32 := by kernel_rfl
  have hmem : ∀ n ∈ y1.1.weights Tryd.prog 34, n ≤ reachBytes := fun n hn => by
    have h9 : n ∈ DataW.weightsEach Tryd.prog ts ds := DataW.weights_mem_each ht hd n (by
      rw [hd2]
      simp only [DataW.weights, Tryd.underlying36]
      exact DataW.weights_mem_each (j := 1) (t := 34) (d := y1.1) rfl rfl n hn)
    have := List.all_eq_true.1 hw n h9
    simpa using this
  rcases open_slice Tryd.underlying34 h1 with ⟨hcs, _⟩ | ⟨a, len, cap, m, n, D, Pl, hcs, _, _, _, _, hx, _⟩
  · injection hcs with hcs
    injection hcs with _ e1 _
    omega
  · injection hcs with hcs
    injection hcs with _ e1 _
    subst e1
    have h9 := hmem ((((List.range n2).map D).length + ((List.range (m - n2)).map fun j => D (n2 + j)).length) * Tryd.prog.bytesOf 50) (by
      rw [hx]
      simp only [DataW.weights, Tryd.underlying34]
      exact List.mem_cons_self ..)
    rw [hb, List.length_map, List.length_range, Nat.add_mul] at h9
    unfold reachBytes at h9
    omega
end
end Go.Proofs.YtonpemikodajdaaDoor
