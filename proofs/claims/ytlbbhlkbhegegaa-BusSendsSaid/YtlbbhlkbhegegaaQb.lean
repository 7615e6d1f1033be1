/- A region that draws its order and whose callees make memory of their own: one walk in the order of the text, in every world that is as it was below a bound. -/
import Derived.Test.YtlbbhlkbhegegaaMem
namespace Go.Proofs.Ytlbbhlkbhegegaa
open Go.RowKit
/-- the worlds that are, below block B, as W was -/
def BW (B : Nat) (W : World) := { w' : World // Below B W w' }
instance nonempty_BW (B : Nat) (W : World) : Nonempty (BW B W) := ⟨⟨W, Below.refl B W⟩⟩
theorem wp_region_below {P : Program} {id : Nat} {Q : Exit → Act → World → Prop} {a : Act} {w : World} {l : List Oper} (B : Nat) (W : World) (hw : Below B W w) (hm : P.follows .mixedOrders = true) (hB : Region.lexB .any l.toArray = true)
    (h : wpQuiet P l.toArray (fun w' => ∃ s : BW B W, w' = s.1) (fun a' => ∀ s : BW B W, Q .normal a' s.1) l a) : (Code.region id l.toArray true).wp P Q a w := by
  refine wp_region_quiet (C := fun w' => ∃ s : BW B W, w' = s.1) hm hB ⟨⟨_, hw.drew⟩, rfl⟩ ?_
  have key : ∀ (ll : List Oper) (a : Act), wpQuiet P l.toArray (fun w' => ∃ s : BW B W, w' = s.1) (fun a' => ∀ s : BW B W, Q .normal a' s.1) ll a →
      wpQuiet P l.toArray (fun w' => ∃ s : BW B W, w' = s.1) (fun a' => ∀ w', (∃ s : BW B W, w' = s.1) → Q .normal a' w') ll a := by
    intro ll
    induction ll with
    | nil =>
      intro a h w' ⟨s, hs⟩
      rw [hs]
      exact h s
    | cons o r ih =>
      intro a h
      unfold wpQuiet at h ⊢
      split
      · rename_i hw'
        rw [if_pos hw'] at h
        exact Oper.quiet_mono (fun a' h' => ih a' h') h
      · rename_i hw'
        rw [if_neg hw'] at h
        exact ih _ h
  exact key _ _ h
/-- a callee's contract, met in each of these worlds -/
theorem quiet_below {P : Program} {f : FuncId} {args : Array Value} {B : Nat} {W : World} {s : BW B W} {v : Value} (hB : B ≤ W.heap.size)
    (h : Calls P f args s.1 fun e w' => e = .returned v ∧ Below s.1.heap.size s.1 w') : Calls P f args s.1 fun e w'' => e = .returned v ∧ ∃ s' : BW B W, w'' = s'.1 :=
  h.mono fun _ w' ⟨he, hb⟩ => ⟨he, ⟨w', s.2.trans (hb.mono (Nat.le_trans hB s.2.size))⟩, rfl⟩
theorem BW.cell {B : Nat} {W : World} {b o : Nat} {v : Value} (hb : b < B) (h : W.cell? ⟨b, o, none⟩ = some v) : ∀ s : BW B W, s.1.cell? ⟨b, o, none⟩ = some v := fun s => (bcell s.2 b o hb).trans h
end Go.Proofs.Ytlbbhlkbhegegaa
