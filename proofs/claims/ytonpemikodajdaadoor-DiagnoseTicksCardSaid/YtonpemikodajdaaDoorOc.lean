/- Arguments opened: a memory. -/
import Derived.Test.YtonpemikodajdaaDoorOw
import Derived.Test.YtonpemikodajdaaDoorMb
namespace Go.Proofs.YtonpemikodajdaaDoor
open Go.RowKit Go.ChangeShapes Go.WideShapes Go.ChangeAt Go.Deep Go.Joins

section
variable {H : Type} {enc : TypeId × Value → H} {w : World} {base : Nat} {spare : Nat → Bool} {held : Bool}
theorem open_ints24m {fuel : Nat} {cs : List Value} {x : DataW H × List MemPlace} (h : DataW.trod enc Tryd.prog w base spare held fuel 24 cs = some x) :
    ∃ (A : Option Addr) (cap : Nat) (l : List Int), cs = [.slice A l.length cap] ∧ IntsA w w.heap.size A l := by
  obtain ⟨A, cap, l, hcs, _, _, hI, _⟩ := open_intsA Tryd.underlying24 Tryd.underlying3 (by kernel_rfl) h
  exact ⟨A, cap, l, hcs, hI⟩
end
def boolV : Value → Bool | .bool b => b | _ => false
section
variable {H : Type} {enc : TypeId × Value → H} {w : World} {base : Nat} {spare : Nat → Bool} {held : Bool}
set_option maxRecDepth 100000 in
theorem boolV_of {fuel : Nat} {t : TypeId} {v : Value} {y : DataW H × List MemPlace} (ht : Tryd.prog.underlying t = some .bool) (h : DataW.trod enc Tryd.prog w base spare held fuel t [v] = some y) : v = .bool (boolV v) := by
  obtain ⟨b, hcs, _⟩ := DataW.trod_bool ht h
  injection hcs with hv
  subst hv
  rfl
set_option maxRecDepth 100000 in
theorem open_codes {fuel : Nat} {cs : List Value} {x : DataW H × List MemPlace} (h : DataW.trod enc Tryd.prog w base spare held fuel 25 cs = some x) :
    ∃ (A : Option Addr) (cap : Nat) (ks : List MCode), cs = [.slice A ks.length cap] ∧ ks.length ≤ cap ∧ (ks.length ≤ 1000000 → CodesA w w.heap.size A ks) := by
  obtain ⟨A2, n2, c2, F, hcs, hl2, hm2, hS2, hF2⟩ := open_rows Tryd.underlying25 Tryd.underlying46 (by kernel_rfl) (by kernel_rfl) (by decide) h
  have hf : ∀ i j, i < n2 → j < 4 → F i j = .int .i64 (numV (F i j)) := fun i j hi hj => by
    match j, hj with
    | 0, _ => obtain ⟨n, y, hy⟩ := hF2 i 0 _ hi rfl; exact (numV_of Tryd.underlying3 hy).1
    | 1, _ => obtain ⟨n, y, hy⟩ := hF2 i 1 _ hi rfl; exact (numV_of Tryd.underlying3 hy).1
    | 2, _ => obtain ⟨n, y, hy⟩ := hF2 i 2 _ hi rfl; exact (numV_of Tryd.underlying3 hy).1
    | 3, _ => obtain ⟨n, y, hy⟩ := hF2 i 3 _ hi rfl; exact (numV_of Tryd.underlying3 hy).1
  have hb : ∀ i, i < n2 → F i 5 = .bool (boolV (F i 5)) := fun i hi => by
    obtain ⟨n, y, hy⟩ := hF2 i 5 _ hi rfl
    exact boolV_of Tryd.underlying4 hy
  have hp : ∀ i, ∃ (A : Option Addr) (cap : Nat) (l : List Int), i < n2 → F i 4 = .slice A l.length cap ∧ l.length ≤ cap ∧ IntsA w w.heap.size A l := fun i => by
    by_cases hi : i < n2
    · obtain ⟨n, y, hy⟩ := hF2 i 4 _ hi rfl
      obtain ⟨A, cap, l, hcs, hl, _, hA, _⟩ := open_intsA Tryd.underlying24 Tryd.underlying3 (by kernel_rfl) hy
      injection hcs with hcs
      exact ⟨A, cap, l, fun _ => ⟨hcs, hl, hA⟩⟩
    · exact ⟨none, 0, [], fun h => absurd h hi⟩
  let pA := fun i => Classical.choose (hp i)
  let pC := fun i => Classical.choose (Classical.choose_spec (hp i))
  let pL := fun i => Classical.choose (Classical.choose_spec (Classical.choose_spec (hp i)))
  have hpp : ∀ i, i < n2 → F i 4 = .slice (pA i) (pL i).length (pC i) ∧ (pL i).length ≤ pC i ∧ IntsA w w.heap.size (pA i) (pL i) := fun i => Classical.choose_spec (Classical.choose_spec (Classical.choose_spec (hp i)))
  refine ⟨A2, c2, (List.range n2).map fun i => ⟨numV (F i 0), numV (F i 1), numV (F i 2), numV (F i 3), pL i, boolV (F i 5)⟩, by simpa using hcs, by simpa using hl2, fun hlen => ⟨hlen, fun i => (pA i, pC i), ?_, ?_⟩⟩
  · intro hn0
    simp only [List.length_map, List.length_range] at hn0 ⊢
    obtain ⟨b, off, hA, hlt, hc⟩ := hS2 hn0
    refine ⟨b, off, hA, hlt, fun i j hi hj => ?_⟩
    have h1 := hc i j hi hj
    refine h1.trans ?_
    unfold codeCell
    rw [range_getD _ _ hi]
    match j, hj with
    | 0, _ => rw [hf i 0 hi (by decide)]; rfl
    | 1, _ => rw [hf i 1 hi (by decide)]; rfl
    | 2, _ => rw [hf i 2 hi (by decide)]; rfl
    | 3, _ => rw [hf i 3 hi (by decide)]; rfl
    | 4, _ => rw [(hpp i hi).1]; rfl
    | 5, _ => rw [hb i hi]; rfl
  · intro i hi
    simp only [List.length_map, List.length_range] at hi
    rw [range_getD _ _ hi]
    exact ⟨(hpp i hi).2.1, (hpp i hi).2.2⟩
/-- a memory as an argument: of any number of codes -/
def MemX (w : World) (v : Value) (t : Int) (s : WSt) : Prop :=
  ∃ Ac cc Ak ck Av cv, v = .agg #[.int .i64 t, .slice Ac s.ns.length cc, .slice Ak s.cs.length ck, .slice Av s.ks.length cv] ∧ (s.ks.length ≤ 1000000 → MemA w w.heap.size v t s)
set_option maxRecDepth 100000 in
theorem open_memory {r : Reach} {b0 : Nat} {v : Value} {d : DataW H} {p : List MemPlace} (hv : Value.okWide Tryd.prog w r b0 27 v) (h : DataW.Trod enc Tryd.prog w base spare held 27 v d p) :
    ∃ (t : Int) (s : WSt), MemX w v t s := by
  obtain ⟨v0, v1, v2, v3, y0, y1, y2, y3, fuel, rfl, _, _, h0, h1, h2, h3⟩ := open_agg4 (P := Tryd.prog) (t := 27) Tryd.underlying27 (by kernel_rfl) (by kernel_rfl) hv h
  have h9 := (numV_of Tryd.underlying3 h0).1
  obtain ⟨A1, c1, l1, hcs, hl1, hm1, hI1, _⟩ := open_intsA Tryd.underlying24 Tryd.underlying3 (by kernel_rfl) h1
  injection hcs with hcs
  subst hcs
  obtain ⟨A2, c2, l2, hcs, hl2, hm2, hI2, _⟩ := open_intsA Tryd.underlying24 Tryd.underlying3 (by kernel_rfl) h2
  injection hcs with hcs
  subst hcs
  obtain ⟨A3, c3, ks, hcs, hl3, hC⟩ := open_codes h3
  injection hcs with hcs
  subst hcs
  exact ⟨numV v0, ⟨l1, l2, ks⟩, A1, c1, A2, c2, A3, c3, by rw [← h9], fun hlen => ⟨A1, c1, A2, c2, A3, c3, by rw [← h9], hI1, hI2, hC hlen, hl1, hl2, hl3⟩⟩
end
end Go.Proofs.YtonpemikodajdaaDoor
