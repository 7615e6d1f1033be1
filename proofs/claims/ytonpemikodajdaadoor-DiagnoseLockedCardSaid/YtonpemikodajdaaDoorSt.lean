/- A step of a region: the list of a set. -/
import Derived.Test.YtonpemikodajdaaDoorGw0
namespace Go.Proofs.YtonpemikodajdaaDoor
open Go.RowKit
theorem step_list {ops : Array Oper} {o : Oper} {a : Act} {K : Act → World → Prop} {Q : Exit → Act → World → Prop} {E : Prop} (w : World) (hg : o.guard = none) (x : Operand) (ho : o.op = .call { callee := .value (.func 65), args := #[x], argTypes := #[97] }) (s : Nat) (hx : a.eval x = .int .u64 (s : Int)) (hs : s < 4096) (hT : TabW w)
    (hK : ∀ Lb lc w2, (bitsI s).length ≤ lc → IntsU w2 (fun b => w.heap.size ≤ b) Lb (bitsI s) → Below w.heap.size w w2 → K (a.put o.dst (.slice Lb (bitsI s).length lc)) w2) :
    if Region.wanted o (yielded ops a.tmps) = true then Oper.wp Tryd.prog o a w K Q else E := by
  rw [if_pos (by simp [Region.wanted, hg])]
  have hC := list_u s w hs hT rfl
  have hf : a.eval (.func 65) = .func (.func 65) #[] #[] := rfl
  unfold Oper.wp execOp
  simp only [ho, resolve, invoke, Sem.run_bind, List.map_toArray, List.map_cons, List.map_nil, hx, hf]
  simp [go_sem]
  refine hC.mono ?_
  rintro e w2 ⟨Lb, lc, rfl, hlc, hL, hb⟩
  exact hK Lb lc w2 hlc hL hb
end Go.Proofs.YtonpemikodajdaaDoor
