/-
  No cell of these rows narrows 'for every input' (looked for: loops, veiled, ifaces, maps, wideKeys, modest, calm, conditions, laid).
  DERIVED. THE GIVEN ROWS OF THIS SEAT. 12 by the template 'for every input the law returns true; each argument reads behind the call as it read before'; 0 by the template 'total and deterministic' (their statements: YtegclodchhcbaaaTotals.lean).
  GIVEN WITH THE SEED: the statements are not yours to turn. If you find one false, say at which input.
  Laid BY PROGRAM, IN A SANDBOX (cutbox-rows.mjs): the forced cells as the released guide's own fill.sh prints them over the translation 28dfd671269395f4… (all of the seat's roots in one cut). By AI agents, Wed Nov 11 2026. No macro, syntax, notation, axiom, sorry.
-/
import Derived.Test.YtegclodchhcbaaaChecked
import GoSem.Claim
import GoSem.ClaimJoined
import GoSem.ClaimMapViews
import Derived.JoinedTies
import Derived.KernelRfl
namespace Go.Proofs.Ytegclodchhcbaaa
/- THE CELL 'sum', in the pinned program and in every row, IS THE sha256 OF THE DUMP (.gsa) THAT YtegclodchhcbaaaProg.lean LOADS. Nothing in Lean hashes anything: it is a label: what it is worth is what the hold of that sum in a sandbox is worth. -/
noncomputable def Try.pinned : Pinned := { name := "ytegclodchhcbaaa", sum := "28dfd671269395f4e1155b535106fde72260f0451154d63a06be4661823633ab", checked := Try.checked }
namespace Rows
def none {H : Type} : Left H := { results := [], args := [] }

/-- 'ignitionlaw08.PowerServes': WHATEVER THE INPUT: true; the input reads as it did. -/
def powerServesSpec : ChangeSpec := { name := "powerServes", fn := fun _ => fun
  | [d] => { results := [.lit (.bool true)], args := [d] }
  | _ => none }
def powerServesRow : OpenClaim := { program := "ytegclodchhcbaaa", sum := "28dfd671269395f4e1155b535106fde72260f0451154d63a06be4661823633ab", func := "ignition/ignitionlaw08.PowerServes", spec := "powerServes", unfollowed := true, recurses := true, apart := false }
def PowerServesSaid : Prop := powerServesRow.holds Try.pinned (OpenSpec.ofChange powerServesSpec)

/-- ITS FALSE NEIGHBOUR: 'it returns false'. Refute it at one input. -/
def powerServesWrong : ChangeSpec := { name := "powerServes", fn := fun _ => fun
  | [d] => { results := [.lit (.bool false)], args := [d] }
  | _ => none }
def PowerServesWrongFalsely : Prop := powerServesRow.holds Try.pinned (OpenSpec.ofChange powerServesWrong)

/-- 'ignitionlaw08.PowerFewer': WHATEVER THE INPUT: true; the input reads as it did. -/
def powerFewerSpec : ChangeSpec := { name := "powerFewer", fn := fun _ => fun
  | [d1, d2, d3] => { results := [.lit (.bool true)], args := [d1, d2, d3] }
  | _ => none }
def powerFewerRow : OpenClaim := { program := "ytegclodchhcbaaa", sum := "28dfd671269395f4e1155b535106fde72260f0451154d63a06be4661823633ab", func := "ignition/ignitionlaw08.PowerFewer", spec := "powerFewer", unfollowed := true, recurses := true, apart := false }
def PowerFewerSaid : Prop := powerFewerRow.holds Try.pinned (OpenSpec.ofChange powerFewerSpec)

/-- ITS FALSE NEIGHBOUR: 'it returns false'. Refute it at one input. -/
def powerFewerWrong : ChangeSpec := { name := "powerFewer", fn := fun _ => fun
  | [d1, d2, d3] => { results := [.lit (.bool false)], args := [d1, d2, d3] }
  | _ => none }
def PowerFewerWrongFalsely : Prop := powerFewerRow.holds Try.pinned (OpenSpec.ofChange powerFewerWrong)

/-- 'ignitionlaw08.PowerFlows': WHATEVER THE INPUT: true; the input reads as it did. -/
def powerFlowsSpec : ChangeSpec := { name := "powerFlows", fn := fun _ => fun
  | [d] => { results := [.lit (.bool true)], args := [d] }
  | _ => none }
def powerFlowsRow : OpenClaim := { program := "ytegclodchhcbaaa", sum := "28dfd671269395f4e1155b535106fde72260f0451154d63a06be4661823633ab", func := "ignition/ignitionlaw08.PowerFlows", spec := "powerFlows", unfollowed := true, recurses := true, apart := false }
def PowerFlowsSaid : Prop := powerFlowsRow.holds Try.pinned (OpenSpec.ofChange powerFlowsSpec)

/-- ITS FALSE NEIGHBOUR: 'it returns false'. Refute it at one input. -/
def powerFlowsWrong : ChangeSpec := { name := "powerFlows", fn := fun _ => fun
  | [d] => { results := [.lit (.bool false)], args := [d] }
  | _ => none }
def PowerFlowsWrongFalsely : Prop := powerFlowsRow.holds Try.pinned (OpenSpec.ofChange powerFlowsWrong)

/-- 'ignitionlaw08.PowerFirst': WHATEVER THE INPUT: true; the input reads as it did. -/
def powerFirstSpec : ChangeSpec := { name := "powerFirst", fn := fun _ => fun
  | [d] => { results := [.lit (.bool true)], args := [d] }
  | _ => none }
def powerFirstRow : OpenClaim := { program := "ytegclodchhcbaaa", sum := "28dfd671269395f4e1155b535106fde72260f0451154d63a06be4661823633ab", func := "ignition/ignitionlaw08.PowerFirst", spec := "powerFirst", unfollowed := true, recurses := true, apart := false }
def PowerFirstSaid : Prop := powerFirstRow.holds Try.pinned (OpenSpec.ofChange powerFirstSpec)

/-- ITS FALSE NEIGHBOUR: 'it returns false'. Refute it at one input. -/
def powerFirstWrong : ChangeSpec := { name := "powerFirst", fn := fun _ => fun
  | [d] => { results := [.lit (.bool false)], args := [d] }
  | _ => none }
def PowerFirstWrongFalsely : Prop := powerFirstRow.holds Try.pinned (OpenSpec.ofChange powerFirstWrong)

/-- 'ignitionlaw08.PowerCuts': WHATEVER THE INPUT: true; the input reads as it did. -/
def powerCutsSpec : ChangeSpec := { name := "powerCuts", fn := fun _ => fun
  | [d] => { results := [.lit (.bool true)], args := [d] }
  | _ => none }
def powerCutsRow : OpenClaim := { program := "ytegclodchhcbaaa", sum := "28dfd671269395f4e1155b535106fde72260f0451154d63a06be4661823633ab", func := "ignition/ignitionlaw08.PowerCuts", spec := "powerCuts", unfollowed := true, recurses := true, apart := false }
def PowerCutsSaid : Prop := powerCutsRow.holds Try.pinned (OpenSpec.ofChange powerCutsSpec)

/-- ITS FALSE NEIGHBOUR: 'it returns false'. Refute it at one input. -/
def powerCutsWrong : ChangeSpec := { name := "powerCuts", fn := fun _ => fun
  | [d] => { results := [.lit (.bool false)], args := [d] }
  | _ => none }
def PowerCutsWrongFalsely : Prop := powerCutsRow.holds Try.pinned (OpenSpec.ofChange powerCutsWrong)

/-- 'ignitionlaw08.PowerProved': WHATEVER THE INPUT: true; the input reads as it did. -/
def powerProvedSpec : ChangeSpec := { name := "powerProved", fn := fun _ => fun
  | [d1, d2] => { results := [.lit (.bool true)], args := [d1, d2] }
  | _ => none }
def powerProvedRow : OpenClaim := { program := "ytegclodchhcbaaa", sum := "28dfd671269395f4e1155b535106fde72260f0451154d63a06be4661823633ab", func := "ignition/ignitionlaw08.PowerProved", spec := "powerProved", unfollowed := true, recurses := true, apart := false }
def PowerProvedSaid : Prop := powerProvedRow.holds Try.pinned (OpenSpec.ofChange powerProvedSpec)

/-- ITS FALSE NEIGHBOUR: 'it returns false'. Refute it at one input. -/
def powerProvedWrong : ChangeSpec := { name := "powerProved", fn := fun _ => fun
  | [d1, d2] => { results := [.lit (.bool false)], args := [d1, d2] }
  | _ => none }
def PowerProvedWrongFalsely : Prop := powerProvedRow.holds Try.pinned (OpenSpec.ofChange powerProvedWrong)

/-- 'ignitionlaw08.PowerChecks': WHATEVER THE INPUT: true; the input reads as it did. -/
def powerChecksSpec : ChangeSpec := { name := "powerChecks", fn := fun _ => fun
  | [d] => { results := [.lit (.bool true)], args := [d] }
  | _ => none }
def powerChecksRow : OpenClaim := { program := "ytegclodchhcbaaa", sum := "28dfd671269395f4e1155b535106fde72260f0451154d63a06be4661823633ab", func := "ignition/ignitionlaw08.PowerChecks", spec := "powerChecks", unfollowed := true, recurses := true, apart := false }
def PowerChecksSaid : Prop := powerChecksRow.holds Try.pinned (OpenSpec.ofChange powerChecksSpec)

/-- ITS FALSE NEIGHBOUR: 'it returns false'. Refute it at one input. -/
def powerChecksWrong : ChangeSpec := { name := "powerChecks", fn := fun _ => fun
  | [d] => { results := [.lit (.bool false)], args := [d] }
  | _ => none }
def PowerChecksWrongFalsely : Prop := powerChecksRow.holds Try.pinned (OpenSpec.ofChange powerChecksWrong)

/-- 'ignitionlaw08.PowerSpares': WHATEVER THE INPUT: true; the input reads as it did. -/
def powerSparesSpec : ChangeSpec := { name := "powerSpares", fn := fun _ => fun
  | [d1, d2] => { results := [.lit (.bool true)], args := [d1, d2] }
  | _ => none }
def powerSparesRow : OpenClaim := { program := "ytegclodchhcbaaa", sum := "28dfd671269395f4e1155b535106fde72260f0451154d63a06be4661823633ab", func := "ignition/ignitionlaw08.PowerSpares", spec := "powerSpares", unfollowed := true, recurses := true, apart := false }
def PowerSparesSaid : Prop := powerSparesRow.holds Try.pinned (OpenSpec.ofChange powerSparesSpec)

/-- ITS FALSE NEIGHBOUR: 'it returns false'. Refute it at one input. -/
def powerSparesWrong : ChangeSpec := { name := "powerSpares", fn := fun _ => fun
  | [d1, d2] => { results := [.lit (.bool false)], args := [d1, d2] }
  | _ => none }
def PowerSparesWrongFalsely : Prop := powerSparesRow.holds Try.pinned (OpenSpec.ofChange powerSparesWrong)

/-- 'ignitionlaw08.PowerNarrow': WHATEVER THE INPUT: true; the input reads as it did. -/
def powerNarrowSpec : ChangeSpec := { name := "powerNarrow", fn := fun _ => fun
  | [d] => { results := [.lit (.bool true)], args := [d] }
  | _ => none }
def powerNarrowRow : OpenClaim := { program := "ytegclodchhcbaaa", sum := "28dfd671269395f4e1155b535106fde72260f0451154d63a06be4661823633ab", func := "ignition/ignitionlaw08.PowerNarrow", spec := "powerNarrow", unfollowed := true, recurses := true, apart := false }
def PowerNarrowSaid : Prop := powerNarrowRow.holds Try.pinned (OpenSpec.ofChange powerNarrowSpec)

/-- ITS FALSE NEIGHBOUR: 'it returns false'. Refute it at one input. -/
def powerNarrowWrong : ChangeSpec := { name := "powerNarrow", fn := fun _ => fun
  | [d] => { results := [.lit (.bool false)], args := [d] }
  | _ => none }
def PowerNarrowWrongFalsely : Prop := powerNarrowRow.holds Try.pinned (OpenSpec.ofChange powerNarrowWrong)

/-- 'ignitionlaw08.PowerJoins': WHATEVER THE INPUT: true; the input reads as it did. -/
def powerJoinsSpec : ChangeSpec := { name := "powerJoins", fn := fun _ => fun
  | [d1, d2, d3] => { results := [.lit (.bool true)], args := [d1, d2, d3] }
  | _ => none }
def powerJoinsRow : OpenClaim := { program := "ytegclodchhcbaaa", sum := "28dfd671269395f4e1155b535106fde72260f0451154d63a06be4661823633ab", func := "ignition/ignitionlaw08.PowerJoins", spec := "powerJoins", unfollowed := true, recurses := true, apart := false }
def PowerJoinsSaid : Prop := powerJoinsRow.holds Try.pinned (OpenSpec.ofChange powerJoinsSpec)

/-- ITS FALSE NEIGHBOUR: 'it returns false'. Refute it at one input. -/
def powerJoinsWrong : ChangeSpec := { name := "powerJoins", fn := fun _ => fun
  | [d1, d2, d3] => { results := [.lit (.bool false)], args := [d1, d2, d3] }
  | _ => none }
def PowerJoinsWrongFalsely : Prop := powerJoinsRow.holds Try.pinned (OpenSpec.ofChange powerJoinsWrong)

/-- 'ignitionlaw08.PowerSingles': WHATEVER THE INPUT: true; the input reads as it did. -/
def powerSinglesSpec : ChangeSpec := { name := "powerSingles", fn := fun _ => fun
  | [d1, d2] => { results := [.lit (.bool true)], args := [d1, d2] }
  | _ => none }
def powerSinglesRow : OpenClaim := { program := "ytegclodchhcbaaa", sum := "28dfd671269395f4e1155b535106fde72260f0451154d63a06be4661823633ab", func := "ignition/ignitionlaw08.PowerSingles", spec := "powerSingles", unfollowed := true, recurses := true, apart := false }
def PowerSinglesSaid : Prop := powerSinglesRow.holds Try.pinned (OpenSpec.ofChange powerSinglesSpec)

/-- ITS FALSE NEIGHBOUR: 'it returns false'. Refute it at one input. -/
def powerSinglesWrong : ChangeSpec := { name := "powerSingles", fn := fun _ => fun
  | [d1, d2] => { results := [.lit (.bool false)], args := [d1, d2] }
  | _ => none }
def PowerSinglesWrongFalsely : Prop := powerSinglesRow.holds Try.pinned (OpenSpec.ofChange powerSinglesWrong)

/-- 'ignitionlaw08.PowerDoubles': WHATEVER THE INPUT: true; the input reads as it did. -/
def powerDoublesSpec : ChangeSpec := { name := "powerDoubles", fn := fun _ => fun
  | [d1, d2] => { results := [.lit (.bool true)], args := [d1, d2] }
  | _ => none }
def powerDoublesRow : OpenClaim := { program := "ytegclodchhcbaaa", sum := "28dfd671269395f4e1155b535106fde72260f0451154d63a06be4661823633ab", func := "ignition/ignitionlaw08.PowerDoubles", spec := "powerDoubles", unfollowed := true, recurses := true, apart := false }
def PowerDoublesSaid : Prop := powerDoublesRow.holds Try.pinned (OpenSpec.ofChange powerDoublesSpec)

/-- ITS FALSE NEIGHBOUR: 'it returns false'. Refute it at one input. -/
def powerDoublesWrong : ChangeSpec := { name := "powerDoubles", fn := fun _ => fun
  | [d1, d2] => { results := [.lit (.bool false)], args := [d1, d2] }
  | _ => none }
def PowerDoublesWrongFalsely : Prop := powerDoublesRow.holds Try.pinned (OpenSpec.ofChange powerDoublesWrong)

/- THE SECOND FORM. 'bulk': how many values and letters a reading holds, each counted each time it is reached (what is shared counts as often as it is met; a slice's spare places count too). A statement '..UptoSaid' is the law's where the arguments, and the package variables that the reading takes, are together of bulk at most 1048576: NARROWER than '..Said'. Prove '..Said' where nothing that the law and all that it calls make is longer than what came in: it says more and counts as full. Else prove '..UptoSaid'. A law counts once. -/
mutual
def uptoBulk {H : Type} : DataW H → Nat
  | .lit (.string bytes) => bytes.length + 1
  | .lit _ => 1
  | .nil => 1
  | .ptr d => uptoBulk d + 1
  | .slice elems spare => uptoBulkAll elems + uptoBulkAll spare + 1
  | .agg parts => uptoBulkAll parts + 1
  | .iface _ d => uptoBulk d + 1
  | .map entries => uptoBulkEntries entries + 1
  | .held _ => 1
def uptoBulkAll {H : Type} : List (DataW H) → Nat
  | [] => 0
  | d :: r => uptoBulk d + uptoBulkAll r
def uptoBulkEntries {H : Type} : List (Lit × DataW H) → Nat
  | [] => 0
  | x :: r => uptoBulkEntry x + uptoBulkEntries r
def uptoBulkEntry {H : Type} : Lit × DataW H → Nat
  | (.string bytes, d) => bytes.length + uptoBulk d + 1
  | (_, d) => uptoBulk d + 1
 end
def uptoSmall : (H : Type) → List (DataW H) → Bool := fun _ ds => decide (uptoBulkAll ds ≤ 1048576)
def OpenSpec.upto (s : _root_.Go.ChangeSpec) : _root_.Go.OpenSpec := { _root_.Go.OpenSpec.ofChange s with cond := some uptoSmall }

/-- 'ignitionlaw08.PowerServes', WHERE WHAT IT READS IS OF BULK AT MOST 1048576: true; the input reads as it did. -/
def powerServesUptoRow : OpenClaim := { program := "ytegclodchhcbaaa", sum := "28dfd671269395f4e1155b535106fde72260f0451154d63a06be4661823633ab", func := "ignition/ignitionlaw08.PowerServes", spec := "powerServes", unfollowed := true, recurses := true, apart := false, narrowed := true }
def PowerServesUptoSaid : Prop := powerServesUptoRow.holds Try.pinned (OpenSpec.upto powerServesSpec)

/-- 'ignitionlaw08.PowerFewer', WHERE WHAT IT READS IS OF BULK AT MOST 1048576: true; the input reads as it did. -/
def powerFewerUptoRow : OpenClaim := { program := "ytegclodchhcbaaa", sum := "28dfd671269395f4e1155b535106fde72260f0451154d63a06be4661823633ab", func := "ignition/ignitionlaw08.PowerFewer", spec := "powerFewer", unfollowed := true, recurses := true, apart := false, narrowed := true }
def PowerFewerUptoSaid : Prop := powerFewerUptoRow.holds Try.pinned (OpenSpec.upto powerFewerSpec)

/-- 'ignitionlaw08.PowerFlows', WHERE WHAT IT READS IS OF BULK AT MOST 1048576: true; the input reads as it did. -/
def powerFlowsUptoRow : OpenClaim := { program := "ytegclodchhcbaaa", sum := "28dfd671269395f4e1155b535106fde72260f0451154d63a06be4661823633ab", func := "ignition/ignitionlaw08.PowerFlows", spec := "powerFlows", unfollowed := true, recurses := true, apart := false, narrowed := true }
def PowerFlowsUptoSaid : Prop := powerFlowsUptoRow.holds Try.pinned (OpenSpec.upto powerFlowsSpec)

/-- 'ignitionlaw08.PowerFirst', WHERE WHAT IT READS IS OF BULK AT MOST 1048576: true; the input reads as it did. -/
def powerFirstUptoRow : OpenClaim := { program := "ytegclodchhcbaaa", sum := "28dfd671269395f4e1155b535106fde72260f0451154d63a06be4661823633ab", func := "ignition/ignitionlaw08.PowerFirst", spec := "powerFirst", unfollowed := true, recurses := true, apart := false, narrowed := true }
def PowerFirstUptoSaid : Prop := powerFirstUptoRow.holds Try.pinned (OpenSpec.upto powerFirstSpec)

/-- 'ignitionlaw08.PowerCuts', WHERE WHAT IT READS IS OF BULK AT MOST 1048576: true; the input reads as it did. -/
def powerCutsUptoRow : OpenClaim := { program := "ytegclodchhcbaaa", sum := "28dfd671269395f4e1155b535106fde72260f0451154d63a06be4661823633ab", func := "ignition/ignitionlaw08.PowerCuts", spec := "powerCuts", unfollowed := true, recurses := true, apart := false, narrowed := true }
def PowerCutsUptoSaid : Prop := powerCutsUptoRow.holds Try.pinned (OpenSpec.upto powerCutsSpec)

/-- 'ignitionlaw08.PowerProved', WHERE WHAT IT READS IS OF BULK AT MOST 1048576: true; the input reads as it did. -/
def powerProvedUptoRow : OpenClaim := { program := "ytegclodchhcbaaa", sum := "28dfd671269395f4e1155b535106fde72260f0451154d63a06be4661823633ab", func := "ignition/ignitionlaw08.PowerProved", spec := "powerProved", unfollowed := true, recurses := true, apart := false, narrowed := true }
def PowerProvedUptoSaid : Prop := powerProvedUptoRow.holds Try.pinned (OpenSpec.upto powerProvedSpec)

/-- 'ignitionlaw08.PowerChecks', WHERE WHAT IT READS IS OF BULK AT MOST 1048576: true; the input reads as it did. -/
def powerChecksUptoRow : OpenClaim := { program := "ytegclodchhcbaaa", sum := "28dfd671269395f4e1155b535106fde72260f0451154d63a06be4661823633ab", func := "ignition/ignitionlaw08.PowerChecks", spec := "powerChecks", unfollowed := true, recurses := true, apart := false, narrowed := true }
def PowerChecksUptoSaid : Prop := powerChecksUptoRow.holds Try.pinned (OpenSpec.upto powerChecksSpec)

/-- 'ignitionlaw08.PowerSpares', WHERE WHAT IT READS IS OF BULK AT MOST 1048576: true; the input reads as it did. -/
def powerSparesUptoRow : OpenClaim := { program := "ytegclodchhcbaaa", sum := "28dfd671269395f4e1155b535106fde72260f0451154d63a06be4661823633ab", func := "ignition/ignitionlaw08.PowerSpares", spec := "powerSpares", unfollowed := true, recurses := true, apart := false, narrowed := true }
def PowerSparesUptoSaid : Prop := powerSparesUptoRow.holds Try.pinned (OpenSpec.upto powerSparesSpec)

/-- 'ignitionlaw08.PowerNarrow', WHERE WHAT IT READS IS OF BULK AT MOST 1048576: true; the input reads as it did. -/
def powerNarrowUptoRow : OpenClaim := { program := "ytegclodchhcbaaa", sum := "28dfd671269395f4e1155b535106fde72260f0451154d63a06be4661823633ab", func := "ignition/ignitionlaw08.PowerNarrow", spec := "powerNarrow", unfollowed := true, recurses := true, apart := false, narrowed := true }
def PowerNarrowUptoSaid : Prop := powerNarrowUptoRow.holds Try.pinned (OpenSpec.upto powerNarrowSpec)

/-- 'ignitionlaw08.PowerJoins', WHERE WHAT IT READS IS OF BULK AT MOST 1048576: true; the input reads as it did. -/
def powerJoinsUptoRow : OpenClaim := { program := "ytegclodchhcbaaa", sum := "28dfd671269395f4e1155b535106fde72260f0451154d63a06be4661823633ab", func := "ignition/ignitionlaw08.PowerJoins", spec := "powerJoins", unfollowed := true, recurses := true, apart := false, narrowed := true }
def PowerJoinsUptoSaid : Prop := powerJoinsUptoRow.holds Try.pinned (OpenSpec.upto powerJoinsSpec)

/-- 'ignitionlaw08.PowerSingles', WHERE WHAT IT READS IS OF BULK AT MOST 1048576: true; the input reads as it did. -/
def powerSinglesUptoRow : OpenClaim := { program := "ytegclodchhcbaaa", sum := "28dfd671269395f4e1155b535106fde72260f0451154d63a06be4661823633ab", func := "ignition/ignitionlaw08.PowerSingles", spec := "powerSingles", unfollowed := true, recurses := true, apart := false, narrowed := true }
def PowerSinglesUptoSaid : Prop := powerSinglesUptoRow.holds Try.pinned (OpenSpec.upto powerSinglesSpec)

/-- 'ignitionlaw08.PowerDoubles', WHERE WHAT IT READS IS OF BULK AT MOST 1048576: true; the input reads as it did. -/
def powerDoublesUptoRow : OpenClaim := { program := "ytegclodchhcbaaa", sum := "28dfd671269395f4e1155b535106fde72260f0451154d63a06be4661823633ab", func := "ignition/ignitionlaw08.PowerDoubles", spec := "powerDoubles", unfollowed := true, recurses := true, apart := false, narrowed := true }
def PowerDoublesUptoSaid : Prop := powerDoublesUptoRow.holds Try.pinned (OpenSpec.upto powerDoublesSpec)

end Rows
end Go.Proofs.Ytegclodchhcbaaa
