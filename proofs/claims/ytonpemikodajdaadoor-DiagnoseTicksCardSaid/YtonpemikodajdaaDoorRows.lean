/-
  NARROWER THAN 'FOR EVERY INPUT', by the rows' own cells (each row's printed sentence says how): DiagnoseWatches: laid · DiagnoseGuides: laid · DiagnoseSets: laid · DiagnoseMore: laid · DiagnoseGroups: laid · DiagnoseTicks: laid · DiagnoseFolded: laid · DiagnoseCheapest: laid · DiagnoseTrees: laid · DiagnoseTalks: laid · DiagnoseLocked: laid · DiagnoseFinds: laid.
  DERIVED. THE GIVEN ROWS OF THIS SEAT. 12 by the template 'for every input the law returns true; each argument reads behind the call as it read before'; 0 by the template 'total and deterministic' (their statements: YtonpemikodajdaaDoorTotals.lean).
  GIVEN WITH THE SEED: the statements are not yours to turn. If you find one false, say at which input.
  Laid BY PROGRAM, IN A SANDBOX (cutbox-rows.mjs): the forced cells as the released guide's own fill.sh prints them over the translation f68e038eaf3309f0… (all of the seat's roots in one cut). By AI agents, Wed Nov 11 2026. No macro, syntax, notation, axiom, sorry.
-/
import Derived.Test.YtonpemikodajdaaDoorChecked
import GoSem.Claim
import GoSem.ClaimJoined
import GoSem.ClaimMapViews
import Derived.JoinedTies
import Derived.KernelRfl
namespace Go.Proofs.YtonpemikodajdaaDoor
/- THE CELL 'sum', in the pinned program and in every row, IS THE sha256 OF THE DUMP (.gsa) THAT YtonpemikodajdaaDoorProg.lean LOADS. Nothing in Lean hashes anything: it is a label: what it is worth is what the hold of that sum in a sandbox is worth. -/
noncomputable def Tryd.pinned : Pinned := { name := "ytonpemikodajdaadoor", sum := "f68e038eaf3309f05c93b042099346479e24dd4bb1ab148875d71660ebc2c52a", checked := Tryd.checked }
namespace Rows
def none {H : Type} : Left H := { results := [], args := [] }

/- WHAT THE LISTED PACKAGE-LEVEL VARIABLES READ AS WHEN THE CALL BEGINS. Each datum BY PROGRAM (the guide's laid-datum.mjs) off the statement by which the dump's own 'gosem.cut.vars' lays the variable. In a bare row this is a premise. The card (YtonpemikodajdaaDoorCards.lean) ties it to the program's text. -/
def laid_math_bits_deBruijn32tab {H : Type} : DataW H := .agg [.lit (.int .u8 0), .lit (.int .u8 1), .lit (.int .u8 28), .lit (.int .u8 2), .lit (.int .u8 29), .lit (.int .u8 14), .lit (.int .u8 24), .lit (.int .u8 3), .lit (.int .u8 30), .lit (.int .u8 22), .lit (.int .u8 20), .lit (.int .u8 15), .lit (.int .u8 25), .lit (.int .u8 17), .lit (.int .u8 4), .lit (.int .u8 8), .lit (.int .u8 31), .lit (.int .u8 27), .lit (.int .u8 13), .lit (.int .u8 23), .lit (.int .u8 21), .lit (.int .u8 19), .lit (.int .u8 16), .lit (.int .u8 7), .lit (.int .u8 26), .lit (.int .u8 12), .lit (.int .u8 18), .lit (.int .u8 6), .lit (.int .u8 11), .lit (.int .u8 5), .lit (.int .u8 10), .lit (.int .u8 9)]
def laid_math_bits_deBruijn64tab {H : Type} : DataW H := .agg [.lit (.int .u8 0), .lit (.int .u8 1), .lit (.int .u8 56), .lit (.int .u8 2), .lit (.int .u8 57), .lit (.int .u8 49), .lit (.int .u8 28), .lit (.int .u8 3), .lit (.int .u8 61), .lit (.int .u8 58), .lit (.int .u8 42), .lit (.int .u8 50), .lit (.int .u8 38), .lit (.int .u8 29), .lit (.int .u8 17), .lit (.int .u8 4), .lit (.int .u8 62), .lit (.int .u8 47), .lit (.int .u8 59), .lit (.int .u8 36), .lit (.int .u8 45), .lit (.int .u8 43), .lit (.int .u8 51), .lit (.int .u8 22), .lit (.int .u8 53), .lit (.int .u8 39), .lit (.int .u8 33), .lit (.int .u8 30), .lit (.int .u8 24), .lit (.int .u8 18), .lit (.int .u8 12), .lit (.int .u8 5), .lit (.int .u8 63), .lit (.int .u8 55), .lit (.int .u8 48), .lit (.int .u8 27), .lit (.int .u8 60), .lit (.int .u8 41), .lit (.int .u8 37), .lit (.int .u8 16), .lit (.int .u8 46), .lit (.int .u8 35), .lit (.int .u8 44), .lit (.int .u8 21), .lit (.int .u8 52), .lit (.int .u8 32), .lit (.int .u8 23), .lit (.int .u8 11), .lit (.int .u8 54), .lit (.int .u8 26), .lit (.int .u8 40), .lit (.int .u8 15), .lit (.int .u8 34), .lit (.int .u8 20), .lit (.int .u8 31), .lit (.int .u8 10), .lit (.int .u8 25), .lit (.int .u8 14), .lit (.int .u8 19), .lit (.int .u8 9), .lit (.int .u8 13), .lit (.int .u8 8), .lit (.int .u8 7), .lit (.int .u8 6)]

/-- 'ignitionlaw10.DiagnoseWatches': WHATEVER THE INPUT: true; the input reads as it did. -/
def diagnoseWatchesSpec : ChangeSpec := { name := "diagnoseWatches", fn := fun _ => fun
  | [d1, d2] => { results := [.lit (.bool true)], args := [d1, d2] }
  | _ => none }
def diagnoseWatchesRow : OpenClaim := { program := "ytonpemikodajdaadoor", sum := "f68e038eaf3309f05c93b042099346479e24dd4bb1ab148875d71660ebc2c52a", func := "ignition/ignitionlaw10.DiagnoseWatches", spec := "diagnoseWatches", inPlace := ["slices.overlaps[ignition/api.Code]"], unfollowed := true, recurses := true, named := ["math/bits.deBruijn32tab", "math/bits.deBruijn64tab"], apart := false, laid := [("math/bits.deBruijn32tab", laid_math_bits_deBruijn32tab), ("math/bits.deBruijn64tab", laid_math_bits_deBruijn64tab)] }
def DiagnoseWatchesSaid : Prop := diagnoseWatchesRow.holds Tryd.pinned (OpenSpec.ofChange diagnoseWatchesSpec)

/-- ITS FALSE NEIGHBOUR: 'it returns false'. Refute it at one input. -/
def diagnoseWatchesWrong : ChangeSpec := { name := "diagnoseWatches", fn := fun _ => fun
  | [d1, d2] => { results := [.lit (.bool false)], args := [d1, d2] }
  | _ => none }
def DiagnoseWatchesWrongFalsely : Prop := diagnoseWatchesRow.holds Tryd.pinned (OpenSpec.ofChange diagnoseWatchesWrong)

/-- 'ignitionlaw10.DiagnoseGuides': WHATEVER THE INPUT: true; the input reads as it did. -/
def diagnoseGuidesSpec : ChangeSpec := { name := "diagnoseGuides", fn := fun _ => fun
  | [d] => { results := [.lit (.bool true)], args := [d] }
  | _ => none }
def diagnoseGuidesRow : OpenClaim := { program := "ytonpemikodajdaadoor", sum := "f68e038eaf3309f05c93b042099346479e24dd4bb1ab148875d71660ebc2c52a", func := "ignition/ignitionlaw10.DiagnoseGuides", spec := "diagnoseGuides", inPlace := ["slices.overlaps[ignition/api.Code]"], unfollowed := true, recurses := true, named := ["math/bits.deBruijn32tab", "math/bits.deBruijn64tab"], apart := false, laid := [("math/bits.deBruijn32tab", laid_math_bits_deBruijn32tab), ("math/bits.deBruijn64tab", laid_math_bits_deBruijn64tab)] }
def DiagnoseGuidesSaid : Prop := diagnoseGuidesRow.holds Tryd.pinned (OpenSpec.ofChange diagnoseGuidesSpec)

/-- ITS FALSE NEIGHBOUR: 'it returns false'. Refute it at one input. -/
def diagnoseGuidesWrong : ChangeSpec := { name := "diagnoseGuides", fn := fun _ => fun
  | [d] => { results := [.lit (.bool false)], args := [d] }
  | _ => none }
def DiagnoseGuidesWrongFalsely : Prop := diagnoseGuidesRow.holds Tryd.pinned (OpenSpec.ofChange diagnoseGuidesWrong)

/-- 'ignitionlaw10.DiagnoseSets': WHATEVER THE INPUT: true; the input reads as it did. -/
def diagnoseSetsSpec : ChangeSpec := { name := "diagnoseSets", fn := fun _ => fun
  | [d1, d2, d3] => { results := [.lit (.bool true)], args := [d1, d2, d3] }
  | _ => none }
def diagnoseSetsRow : OpenClaim := { program := "ytonpemikodajdaadoor", sum := "f68e038eaf3309f05c93b042099346479e24dd4bb1ab148875d71660ebc2c52a", func := "ignition/ignitionlaw10.DiagnoseSets", spec := "diagnoseSets", inPlace := ["slices.overlaps[ignition/api.Code]"], unfollowed := true, recurses := true, named := ["math/bits.deBruijn32tab", "math/bits.deBruijn64tab"], apart := false, laid := [("math/bits.deBruijn32tab", laid_math_bits_deBruijn32tab), ("math/bits.deBruijn64tab", laid_math_bits_deBruijn64tab)] }
def DiagnoseSetsSaid : Prop := diagnoseSetsRow.holds Tryd.pinned (OpenSpec.ofChange diagnoseSetsSpec)

/-- ITS FALSE NEIGHBOUR: 'it returns false'. Refute it at one input. -/
def diagnoseSetsWrong : ChangeSpec := { name := "diagnoseSets", fn := fun _ => fun
  | [d1, d2, d3] => { results := [.lit (.bool false)], args := [d1, d2, d3] }
  | _ => none }
def DiagnoseSetsWrongFalsely : Prop := diagnoseSetsRow.holds Tryd.pinned (OpenSpec.ofChange diagnoseSetsWrong)

/-- 'ignitionlaw10.DiagnoseMore': WHATEVER THE INPUT: true; the input reads as it did. -/
def diagnoseMoreSpec : ChangeSpec := { name := "diagnoseMore", fn := fun _ => fun
  | [d1, d2] => { results := [.lit (.bool true)], args := [d1, d2] }
  | _ => none }
def diagnoseMoreRow : OpenClaim := { program := "ytonpemikodajdaadoor", sum := "f68e038eaf3309f05c93b042099346479e24dd4bb1ab148875d71660ebc2c52a", func := "ignition/ignitionlaw10.DiagnoseMore", spec := "diagnoseMore", inPlace := ["slices.overlaps[ignition/api.Code]"], unfollowed := true, recurses := true, named := ["math/bits.deBruijn32tab", "math/bits.deBruijn64tab"], apart := false, laid := [("math/bits.deBruijn32tab", laid_math_bits_deBruijn32tab), ("math/bits.deBruijn64tab", laid_math_bits_deBruijn64tab)] }
def DiagnoseMoreSaid : Prop := diagnoseMoreRow.holds Tryd.pinned (OpenSpec.ofChange diagnoseMoreSpec)

/-- ITS FALSE NEIGHBOUR: 'it returns false'. Refute it at one input. -/
def diagnoseMoreWrong : ChangeSpec := { name := "diagnoseMore", fn := fun _ => fun
  | [d1, d2] => { results := [.lit (.bool false)], args := [d1, d2] }
  | _ => none }
def DiagnoseMoreWrongFalsely : Prop := diagnoseMoreRow.holds Tryd.pinned (OpenSpec.ofChange diagnoseMoreWrong)

/-- 'ignitionlaw10.DiagnoseGroups': WHATEVER THE INPUT: true; the input reads as it did. -/
def diagnoseGroupsSpec : ChangeSpec := { name := "diagnoseGroups", fn := fun _ => fun
  | [d] => { results := [.lit (.bool true)], args := [d] }
  | _ => none }
def diagnoseGroupsRow : OpenClaim := { program := "ytonpemikodajdaadoor", sum := "f68e038eaf3309f05c93b042099346479e24dd4bb1ab148875d71660ebc2c52a", func := "ignition/ignitionlaw10.DiagnoseGroups", spec := "diagnoseGroups", inPlace := ["slices.overlaps[ignition/api.Code]"], unfollowed := true, recurses := true, named := ["math/bits.deBruijn32tab", "math/bits.deBruijn64tab"], apart := false, laid := [("math/bits.deBruijn32tab", laid_math_bits_deBruijn32tab), ("math/bits.deBruijn64tab", laid_math_bits_deBruijn64tab)] }
def DiagnoseGroupsSaid : Prop := diagnoseGroupsRow.holds Tryd.pinned (OpenSpec.ofChange diagnoseGroupsSpec)

/-- ITS FALSE NEIGHBOUR: 'it returns false'. Refute it at one input. -/
def diagnoseGroupsWrong : ChangeSpec := { name := "diagnoseGroups", fn := fun _ => fun
  | [d] => { results := [.lit (.bool false)], args := [d] }
  | _ => none }
def DiagnoseGroupsWrongFalsely : Prop := diagnoseGroupsRow.holds Tryd.pinned (OpenSpec.ofChange diagnoseGroupsWrong)

/-- 'ignitionlaw10.DiagnoseTicks': WHATEVER THE INPUT: true; the input reads as it did. -/
def diagnoseTicksSpec : ChangeSpec := { name := "diagnoseTicks", fn := fun _ => fun
  | [d1, d2, d3] => { results := [.lit (.bool true)], args := [d1, d2, d3] }
  | _ => none }
def diagnoseTicksRow : OpenClaim := { program := "ytonpemikodajdaadoor", sum := "f68e038eaf3309f05c93b042099346479e24dd4bb1ab148875d71660ebc2c52a", func := "ignition/ignitionlaw10.DiagnoseTicks", spec := "diagnoseTicks", inPlace := ["slices.overlaps[ignition/api.Code]"], unfollowed := true, recurses := true, named := ["math/bits.deBruijn32tab", "math/bits.deBruijn64tab"], apart := false, laid := [("math/bits.deBruijn32tab", laid_math_bits_deBruijn32tab), ("math/bits.deBruijn64tab", laid_math_bits_deBruijn64tab)] }
def DiagnoseTicksSaid : Prop := diagnoseTicksRow.holds Tryd.pinned (OpenSpec.ofChange diagnoseTicksSpec)

/-- ITS FALSE NEIGHBOUR: 'it returns false'. Refute it at one input. -/
def diagnoseTicksWrong : ChangeSpec := { name := "diagnoseTicks", fn := fun _ => fun
  | [d1, d2, d3] => { results := [.lit (.bool false)], args := [d1, d2, d3] }
  | _ => none }
def DiagnoseTicksWrongFalsely : Prop := diagnoseTicksRow.holds Tryd.pinned (OpenSpec.ofChange diagnoseTicksWrong)

/-- 'ignitionlaw10.DiagnoseFolded': WHATEVER THE INPUT: true; the input reads as it did. -/
def diagnoseFoldedSpec : ChangeSpec := { name := "diagnoseFolded", fn := fun _ => fun
  | [d1, d2] => { results := [.lit (.bool true)], args := [d1, d2] }
  | _ => none }
def diagnoseFoldedRow : OpenClaim := { program := "ytonpemikodajdaadoor", sum := "f68e038eaf3309f05c93b042099346479e24dd4bb1ab148875d71660ebc2c52a", func := "ignition/ignitionlaw10.DiagnoseFolded", spec := "diagnoseFolded", inPlace := ["slices.overlaps[ignition/api.Code]"], unfollowed := true, recurses := true, named := ["math/bits.deBruijn32tab", "math/bits.deBruijn64tab"], apart := false, laid := [("math/bits.deBruijn32tab", laid_math_bits_deBruijn32tab), ("math/bits.deBruijn64tab", laid_math_bits_deBruijn64tab)] }
def DiagnoseFoldedSaid : Prop := diagnoseFoldedRow.holds Tryd.pinned (OpenSpec.ofChange diagnoseFoldedSpec)

/-- ITS FALSE NEIGHBOUR: 'it returns false'. Refute it at one input. -/
def diagnoseFoldedWrong : ChangeSpec := { name := "diagnoseFolded", fn := fun _ => fun
  | [d1, d2] => { results := [.lit (.bool false)], args := [d1, d2] }
  | _ => none }
def DiagnoseFoldedWrongFalsely : Prop := diagnoseFoldedRow.holds Tryd.pinned (OpenSpec.ofChange diagnoseFoldedWrong)

/-- 'ignitionlaw10.DiagnoseCheapest': WHATEVER THE INPUT: true; the input reads as it did. -/
def diagnoseCheapestSpec : ChangeSpec := { name := "diagnoseCheapest", fn := fun _ => fun
  | [d1, d2, d3] => { results := [.lit (.bool true)], args := [d1, d2, d3] }
  | _ => none }
def diagnoseCheapestRow : OpenClaim := { program := "ytonpemikodajdaadoor", sum := "f68e038eaf3309f05c93b042099346479e24dd4bb1ab148875d71660ebc2c52a", func := "ignition/ignitionlaw10.DiagnoseCheapest", spec := "diagnoseCheapest", inPlace := ["slices.overlaps[ignition/api.Code]"], unfollowed := true, recurses := true, named := ["math/bits.deBruijn32tab", "math/bits.deBruijn64tab"], apart := false, laid := [("math/bits.deBruijn32tab", laid_math_bits_deBruijn32tab), ("math/bits.deBruijn64tab", laid_math_bits_deBruijn64tab)] }
def DiagnoseCheapestSaid : Prop := diagnoseCheapestRow.holds Tryd.pinned (OpenSpec.ofChange diagnoseCheapestSpec)

/-- ITS FALSE NEIGHBOUR: 'it returns false'. Refute it at one input. -/
def diagnoseCheapestWrong : ChangeSpec := { name := "diagnoseCheapest", fn := fun _ => fun
  | [d1, d2, d3] => { results := [.lit (.bool false)], args := [d1, d2, d3] }
  | _ => none }
def DiagnoseCheapestWrongFalsely : Prop := diagnoseCheapestRow.holds Tryd.pinned (OpenSpec.ofChange diagnoseCheapestWrong)

/-- 'ignitionlaw10.DiagnoseTrees': WHATEVER THE INPUT: true; the input reads as it did. -/
def diagnoseTreesSpec : ChangeSpec := { name := "diagnoseTrees", fn := fun _ => fun
  | [d1, d2, d3] => { results := [.lit (.bool true)], args := [d1, d2, d3] }
  | _ => none }
def diagnoseTreesRow : OpenClaim := { program := "ytonpemikodajdaadoor", sum := "f68e038eaf3309f05c93b042099346479e24dd4bb1ab148875d71660ebc2c52a", func := "ignition/ignitionlaw10.DiagnoseTrees", spec := "diagnoseTrees", inPlace := ["slices.overlaps[ignition/api.Code]"], unfollowed := true, recurses := true, named := ["math/bits.deBruijn32tab", "math/bits.deBruijn64tab"], apart := false, laid := [("math/bits.deBruijn32tab", laid_math_bits_deBruijn32tab), ("math/bits.deBruijn64tab", laid_math_bits_deBruijn64tab)] }
def DiagnoseTreesSaid : Prop := diagnoseTreesRow.holds Tryd.pinned (OpenSpec.ofChange diagnoseTreesSpec)

/-- ITS FALSE NEIGHBOUR: 'it returns false'. Refute it at one input. -/
def diagnoseTreesWrong : ChangeSpec := { name := "diagnoseTrees", fn := fun _ => fun
  | [d1, d2, d3] => { results := [.lit (.bool false)], args := [d1, d2, d3] }
  | _ => none }
def DiagnoseTreesWrongFalsely : Prop := diagnoseTreesRow.holds Tryd.pinned (OpenSpec.ofChange diagnoseTreesWrong)

/-- 'ignitionlaw10.DiagnoseTalks': WHATEVER THE INPUT: true; the input reads as it did. -/
def diagnoseTalksSpec : ChangeSpec := { name := "diagnoseTalks", fn := fun _ => fun
  | [d1, d2, d3] => { results := [.lit (.bool true)], args := [d1, d2, d3] }
  | _ => none }
def diagnoseTalksRow : OpenClaim := { program := "ytonpemikodajdaadoor", sum := "f68e038eaf3309f05c93b042099346479e24dd4bb1ab148875d71660ebc2c52a", func := "ignition/ignitionlaw10.DiagnoseTalks", spec := "diagnoseTalks", inPlace := ["slices.overlaps[ignition/api.Code]"], unfollowed := true, recurses := true, named := ["math/bits.deBruijn32tab", "math/bits.deBruijn64tab"], apart := false, laid := [("math/bits.deBruijn32tab", laid_math_bits_deBruijn32tab), ("math/bits.deBruijn64tab", laid_math_bits_deBruijn64tab)] }
def DiagnoseTalksSaid : Prop := diagnoseTalksRow.holds Tryd.pinned (OpenSpec.ofChange diagnoseTalksSpec)

/-- ITS FALSE NEIGHBOUR: 'it returns false'. Refute it at one input. -/
def diagnoseTalksWrong : ChangeSpec := { name := "diagnoseTalks", fn := fun _ => fun
  | [d1, d2, d3] => { results := [.lit (.bool false)], args := [d1, d2, d3] }
  | _ => none }
def DiagnoseTalksWrongFalsely : Prop := diagnoseTalksRow.holds Tryd.pinned (OpenSpec.ofChange diagnoseTalksWrong)

/-- 'ignitionlaw10.DiagnoseLocked': WHATEVER THE INPUT: true; the input reads as it did. -/
def diagnoseLockedSpec : ChangeSpec := { name := "diagnoseLocked", fn := fun _ => fun
  | [d1, d2] => { results := [.lit (.bool true)], args := [d1, d2] }
  | _ => none }
def diagnoseLockedRow : OpenClaim := { program := "ytonpemikodajdaadoor", sum := "f68e038eaf3309f05c93b042099346479e24dd4bb1ab148875d71660ebc2c52a", func := "ignition/ignitionlaw10.DiagnoseLocked", spec := "diagnoseLocked", inPlace := ["slices.overlaps[ignition/api.Code]"], unfollowed := true, recurses := true, named := ["math/bits.deBruijn32tab", "math/bits.deBruijn64tab"], apart := false, laid := [("math/bits.deBruijn32tab", laid_math_bits_deBruijn32tab), ("math/bits.deBruijn64tab", laid_math_bits_deBruijn64tab)] }
def DiagnoseLockedSaid : Prop := diagnoseLockedRow.holds Tryd.pinned (OpenSpec.ofChange diagnoseLockedSpec)

/-- ITS FALSE NEIGHBOUR: 'it returns false'. Refute it at one input. -/
def diagnoseLockedWrong : ChangeSpec := { name := "diagnoseLocked", fn := fun _ => fun
  | [d1, d2] => { results := [.lit (.bool false)], args := [d1, d2] }
  | _ => none }
def DiagnoseLockedWrongFalsely : Prop := diagnoseLockedRow.holds Tryd.pinned (OpenSpec.ofChange diagnoseLockedWrong)

/-- 'ignitionlaw10.DiagnoseFinds': WHATEVER THE INPUT: true; the input reads as it did. -/
def diagnoseFindsSpec : ChangeSpec := { name := "diagnoseFinds", fn := fun _ => fun
  | [d] => { results := [.lit (.bool true)], args := [d] }
  | _ => none }
def diagnoseFindsRow : OpenClaim := { program := "ytonpemikodajdaadoor", sum := "f68e038eaf3309f05c93b042099346479e24dd4bb1ab148875d71660ebc2c52a", func := "ignition/ignitionlaw10.DiagnoseFinds", spec := "diagnoseFinds", inPlace := ["slices.overlaps[ignition/api.Code]"], unfollowed := true, recurses := true, named := ["math/bits.deBruijn32tab", "math/bits.deBruijn64tab"], apart := false, laid := [("math/bits.deBruijn32tab", laid_math_bits_deBruijn32tab), ("math/bits.deBruijn64tab", laid_math_bits_deBruijn64tab)] }
def DiagnoseFindsSaid : Prop := diagnoseFindsRow.holds Tryd.pinned (OpenSpec.ofChange diagnoseFindsSpec)

/-- ITS FALSE NEIGHBOUR: 'it returns false'. Refute it at one input. -/
def diagnoseFindsWrong : ChangeSpec := { name := "diagnoseFinds", fn := fun _ => fun
  | [d] => { results := [.lit (.bool false)], args := [d] }
  | _ => none }
def DiagnoseFindsWrongFalsely : Prop := diagnoseFindsRow.holds Tryd.pinned (OpenSpec.ofChange diagnoseFindsWrong)

/- THE SECOND FORM. 'bulk': how many values and letters a reading holds, each counted each time it is reached (what is shared counts as often as it is met; a slice's spare places count too). A statement '..UptoSaid' is the law's where the arguments, and the package variables that the reading takes, are together of bulk at most 1048576: NARROWER than '..Said'. Prove '..Said' where nothing that the law and all that it calls make is longer than what came in: it says more and counts as full. Else prove '..UptoSaid'. A law counts once. -/
mutual
def uptoBulk {H : Type} : DataW H → Nat
  | .lit (.string bytes) => bytes.length + 1
  | .lit _ => 1
  | .nil => 1
  | .ptr d => uptoBulk d + 1
  | .slice elems spare => uptoBulkAll elems + uptoBulkAll spare + 1
  | .agg parts => uptoBulkAll parts + 1
  | .iface _ d => uptoBulk d + 1
  | .map entries => uptoBulkEntries entries + 1
  | .held _ => 1
def uptoBulkAll {H : Type} : List (DataW H) → Nat
  | [] => 0
  | d :: r => uptoBulk d + uptoBulkAll r
def uptoBulkEntries {H : Type} : List (Lit × DataW H) → Nat
  | [] => 0
  | x :: r => uptoBulkEntry x + uptoBulkEntries r
def uptoBulkEntry {H : Type} : Lit × DataW H → Nat
  | (.string bytes, d) => bytes.length + uptoBulk d + 1
  | (_, d) => uptoBulk d + 1
 end
def uptoSmall : (H : Type) → List (DataW H) → Bool := fun _ ds => decide (uptoBulkAll ds ≤ 1048576)
def OpenSpec.upto (s : _root_.Go.ChangeSpec) : _root_.Go.OpenSpec := { _root_.Go.OpenSpec.ofChange s with cond := some uptoSmall }

/-- 'ignitionlaw10.DiagnoseWatches', WHERE WHAT IT READS IS OF BULK AT MOST 1048576: true; the input reads as it did. -/
def diagnoseWatchesUptoRow : OpenClaim := { program := "ytonpemikodajdaadoor", sum := "f68e038eaf3309f05c93b042099346479e24dd4bb1ab148875d71660ebc2c52a", func := "ignition/ignitionlaw10.DiagnoseWatches", spec := "diagnoseWatches", inPlace := ["slices.overlaps[ignition/api.Code]"], unfollowed := true, recurses := true, named := ["math/bits.deBruijn32tab", "math/bits.deBruijn64tab"], apart := false, laid := [("math/bits.deBruijn32tab", laid_math_bits_deBruijn32tab), ("math/bits.deBruijn64tab", laid_math_bits_deBruijn64tab)], narrowed := true }
def DiagnoseWatchesUptoSaid : Prop := diagnoseWatchesUptoRow.holds Tryd.pinned (OpenSpec.upto diagnoseWatchesSpec)

/-- 'ignitionlaw10.DiagnoseGuides', WHERE WHAT IT READS IS OF BULK AT MOST 1048576: true; the input reads as it did. -/
def diagnoseGuidesUptoRow : OpenClaim := { program := "ytonpemikodajdaadoor", sum := "f68e038eaf3309f05c93b042099346479e24dd4bb1ab148875d71660ebc2c52a", func := "ignition/ignitionlaw10.DiagnoseGuides", spec := "diagnoseGuides", inPlace := ["slices.overlaps[ignition/api.Code]"], unfollowed := true, recurses := true, named := ["math/bits.deBruijn32tab", "math/bits.deBruijn64tab"], apart := false, laid := [("math/bits.deBruijn32tab", laid_math_bits_deBruijn32tab), ("math/bits.deBruijn64tab", laid_math_bits_deBruijn64tab)], narrowed := true }
def DiagnoseGuidesUptoSaid : Prop := diagnoseGuidesUptoRow.holds Tryd.pinned (OpenSpec.upto diagnoseGuidesSpec)

/-- 'ignitionlaw10.DiagnoseSets', WHERE WHAT IT READS IS OF BULK AT MOST 1048576: true; the input reads as it did. -/
def diagnoseSetsUptoRow : OpenClaim := { program := "ytonpemikodajdaadoor", sum := "f68e038eaf3309f05c93b042099346479e24dd4bb1ab148875d71660ebc2c52a", func := "ignition/ignitionlaw10.DiagnoseSets", spec := "diagnoseSets", inPlace := ["slices.overlaps[ignition/api.Code]"], unfollowed := true, recurses := true, named := ["math/bits.deBruijn32tab", "math/bits.deBruijn64tab"], apart := false, laid := [("math/bits.deBruijn32tab", laid_math_bits_deBruijn32tab), ("math/bits.deBruijn64tab", laid_math_bits_deBruijn64tab)], narrowed := true }
def DiagnoseSetsUptoSaid : Prop := diagnoseSetsUptoRow.holds Tryd.pinned (OpenSpec.upto diagnoseSetsSpec)

/-- 'ignitionlaw10.DiagnoseMore', WHERE WHAT IT READS IS OF BULK AT MOST 1048576: true; the input reads as it did. -/
def diagnoseMoreUptoRow : OpenClaim := { program := "ytonpemikodajdaadoor", sum := "f68e038eaf3309f05c93b042099346479e24dd4bb1ab148875d71660ebc2c52a", func := "ignition/ignitionlaw10.DiagnoseMore", spec := "diagnoseMore", inPlace := ["slices.overlaps[ignition/api.Code]"], unfollowed := true, recurses := true, named := ["math/bits.deBruijn32tab", "math/bits.deBruijn64tab"], apart := false, laid := [("math/bits.deBruijn32tab", laid_math_bits_deBruijn32tab), ("math/bits.deBruijn64tab", laid_math_bits_deBruijn64tab)], narrowed := true }
def DiagnoseMoreUptoSaid : Prop := diagnoseMoreUptoRow.holds Tryd.pinned (OpenSpec.upto diagnoseMoreSpec)

/-- 'ignitionlaw10.DiagnoseGroups', WHERE WHAT IT READS IS OF BULK AT MOST 1048576: true; the input reads as it did. -/
def diagnoseGroupsUptoRow : OpenClaim := { program := "ytonpemikodajdaadoor", sum := "f68e038eaf3309f05c93b042099346479e24dd4bb1ab148875d71660ebc2c52a", func := "ignition/ignitionlaw10.DiagnoseGroups", spec := "diagnoseGroups", inPlace := ["slices.overlaps[ignition/api.Code]"], unfollowed := true, recurses := true, named := ["math/bits.deBruijn32tab", "math/bits.deBruijn64tab"], apart := false, laid := [("math/bits.deBruijn32tab", laid_math_bits_deBruijn32tab), ("math/bits.deBruijn64tab", laid_math_bits_deBruijn64tab)], narrowed := true }
def DiagnoseGroupsUptoSaid : Prop := diagnoseGroupsUptoRow.holds Tryd.pinned (OpenSpec.upto diagnoseGroupsSpec)

/-- 'ignitionlaw10.DiagnoseTicks', WHERE WHAT IT READS IS OF BULK AT MOST 1048576: true; the input reads as it did. -/
def diagnoseTicksUptoRow : OpenClaim := { program := "ytonpemikodajdaadoor", sum := "f68e038eaf3309f05c93b042099346479e24dd4bb1ab148875d71660ebc2c52a", func := "ignition/ignitionlaw10.DiagnoseTicks", spec := "diagnoseTicks", inPlace := ["slices.overlaps[ignition/api.Code]"], unfollowed := true, recurses := true, named := ["math/bits.deBruijn32tab", "math/bits.deBruijn64tab"], apart := false, laid := [("math/bits.deBruijn32tab", laid_math_bits_deBruijn32tab), ("math/bits.deBruijn64tab", laid_math_bits_deBruijn64tab)], narrowed := true }
def DiagnoseTicksUptoSaid : Prop := diagnoseTicksUptoRow.holds Tryd.pinned (OpenSpec.upto diagnoseTicksSpec)

/-- 'ignitionlaw10.DiagnoseFolded', WHERE WHAT IT READS IS OF BULK AT MOST 1048576: true; the input reads as it did. -/
def diagnoseFoldedUptoRow : OpenClaim := { program := "ytonpemikodajdaadoor", sum := "f68e038eaf3309f05c93b042099346479e24dd4bb1ab148875d71660ebc2c52a", func := "ignition/ignitionlaw10.DiagnoseFolded", spec := "diagnoseFolded", inPlace := ["slices.overlaps[ignition/api.Code]"], unfollowed := true, recurses := true, named := ["math/bits.deBruijn32tab", "math/bits.deBruijn64tab"], apart := false, laid := [("math/bits.deBruijn32tab", laid_math_bits_deBruijn32tab), ("math/bits.deBruijn64tab", laid_math_bits_deBruijn64tab)], narrowed := true }
def DiagnoseFoldedUptoSaid : Prop := diagnoseFoldedUptoRow.holds Tryd.pinned (OpenSpec.upto diagnoseFoldedSpec)

/-- 'ignitionlaw10.DiagnoseCheapest', WHERE WHAT IT READS IS OF BULK AT MOST 1048576: true; the input reads as it did. -/
def diagnoseCheapestUptoRow : OpenClaim := { program := "ytonpemikodajdaadoor", sum := "f68e038eaf3309f05c93b042099346479e24dd4bb1ab148875d71660ebc2c52a", func := "ignition/ignitionlaw10.DiagnoseCheapest", spec := "diagnoseCheapest", inPlace := ["slices.overlaps[ignition/api.Code]"], unfollowed := true, recurses := true, named := ["math/bits.deBruijn32tab", "math/bits.deBruijn64tab"], apart := false, laid := [("math/bits.deBruijn32tab", laid_math_bits_deBruijn32tab), ("math/bits.deBruijn64tab", laid_math_bits_deBruijn64tab)], narrowed := true }
def DiagnoseCheapestUptoSaid : Prop := diagnoseCheapestUptoRow.holds Tryd.pinned (OpenSpec.upto diagnoseCheapestSpec)

/-- 'ignitionlaw10.DiagnoseTrees', WHERE WHAT IT READS IS OF BULK AT MOST 1048576: true; the input reads as it did. -/
def diagnoseTreesUptoRow : OpenClaim := { program := "ytonpemikodajdaadoor", sum := "f68e038eaf3309f05c93b042099346479e24dd4bb1ab148875d71660ebc2c52a", func := "ignition/ignitionlaw10.DiagnoseTrees", spec := "diagnoseTrees", inPlace := ["slices.overlaps[ignition/api.Code]"], unfollowed := true, recurses := true, named := ["math/bits.deBruijn32tab", "math/bits.deBruijn64tab"], apart := false, laid := [("math/bits.deBruijn32tab", laid_math_bits_deBruijn32tab), ("math/bits.deBruijn64tab", laid_math_bits_deBruijn64tab)], narrowed := true }
def DiagnoseTreesUptoSaid : Prop := diagnoseTreesUptoRow.holds Tryd.pinned (OpenSpec.upto diagnoseTreesSpec)

/-- 'ignitionlaw10.DiagnoseTalks', WHERE WHAT IT READS IS OF BULK AT MOST 1048576: true; the input reads as it did. -/
def diagnoseTalksUptoRow : OpenClaim := { program := "ytonpemikodajdaadoor", sum := "f68e038eaf3309f05c93b042099346479e24dd4bb1ab148875d71660ebc2c52a", func := "ignition/ignitionlaw10.DiagnoseTalks", spec := "diagnoseTalks", inPlace := ["slices.overlaps[ignition/api.Code]"], unfollowed := true, recurses := true, named := ["math/bits.deBruijn32tab", "math/bits.deBruijn64tab"], apart := false, laid := [("math/bits.deBruijn32tab", laid_math_bits_deBruijn32tab), ("math/bits.deBruijn64tab", laid_math_bits_deBruijn64tab)], narrowed := true }
def DiagnoseTalksUptoSaid : Prop := diagnoseTalksUptoRow.holds Tryd.pinned (OpenSpec.upto diagnoseTalksSpec)

/-- 'ignitionlaw10.DiagnoseLocked', WHERE WHAT IT READS IS OF BULK AT MOST 1048576: true; the input reads as it did. -/
def diagnoseLockedUptoRow : OpenClaim := { program := "ytonpemikodajdaadoor", sum := "f68e038eaf3309f05c93b042099346479e24dd4bb1ab148875d71660ebc2c52a", func := "ignition/ignitionlaw10.DiagnoseLocked", spec := "diagnoseLocked", inPlace := ["slices.overlaps[ignition/api.Code]"], unfollowed := true, recurses := true, named := ["math/bits.deBruijn32tab", "math/bits.deBruijn64tab"], apart := false, laid := [("math/bits.deBruijn32tab", laid_math_bits_deBruijn32tab), ("math/bits.deBruijn64tab", laid_math_bits_deBruijn64tab)], narrowed := true }
def DiagnoseLockedUptoSaid : Prop := diagnoseLockedUptoRow.holds Tryd.pinned (OpenSpec.upto diagnoseLockedSpec)

/-- 'ignitionlaw10.DiagnoseFinds', WHERE WHAT IT READS IS OF BULK AT MOST 1048576: true; the input reads as it did. -/
def diagnoseFindsUptoRow : OpenClaim := { program := "ytonpemikodajdaadoor", sum := "f68e038eaf3309f05c93b042099346479e24dd4bb1ab148875d71660ebc2c52a", func := "ignition/ignitionlaw10.DiagnoseFinds", spec := "diagnoseFinds", inPlace := ["slices.overlaps[ignition/api.Code]"], unfollowed := true, recurses := true, named := ["math/bits.deBruijn32tab", "math/bits.deBruijn64tab"], apart := false, laid := [("math/bits.deBruijn32tab", laid_math_bits_deBruijn32tab), ("math/bits.deBruijn64tab", laid_math_bits_deBruijn64tab)], narrowed := true }
def DiagnoseFindsUptoSaid : Prop := diagnoseFindsUptoRow.holds Tryd.pinned (OpenSpec.upto diagnoseFindsSpec)

end Rows
end Go.Proofs.YtonpemikodajdaaDoor
