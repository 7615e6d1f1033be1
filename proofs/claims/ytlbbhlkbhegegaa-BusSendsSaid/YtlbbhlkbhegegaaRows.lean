/-
  No cell of these rows narrows 'for every input' (looked for: loops, veiled, ifaces, maps, wideKeys, modest, calm, conditions, laid).
  DERIVED. THE GIVEN ROWS OF THIS SEAT. 14 by the template 'for every input the law returns true; each argument reads behind the call as it read before'; 0 by the template 'total and deterministic' (their statements: YtlbbhlkbhegegaaTotals.lean).
  GIVEN WITH THE SEED: the statements are not yours to turn. If you find one false, say at which input.
  Laid BY PROGRAM, IN A SANDBOX (cutbox-rows.mjs): the forced cells as the released guide's own fill.sh prints them over the translation 94a5584a3b447852… (all of the seat's roots in one cut). By AI agents, Wed Nov 11 2026. No macro, syntax, notation, axiom, sorry.
-/
import Derived.Test.YtlbbhlkbhegegaaChecked
import GoSem.Claim
import GoSem.ClaimJoined
import GoSem.ClaimMapViews
import Derived.JoinedTies
import Derived.KernelRfl
namespace Go.Proofs.Ytlbbhlkbhegegaa
/- THE CELL 'sum', in the pinned program and in every row, IS THE sha256 OF THE DUMP (.gsa) THAT YtlbbhlkbhegegaaProg.lean LOADS. Nothing in Lean hashes anything: it is a label: what it is worth is what the hold of that sum in a sandbox is worth. -/
noncomputable def Try.pinned : Pinned := { name := "ytlbbhlkbhegegaa", sum := "94a5584a3b4478523fef449815889579ad2d7d9ec5171697622e9e167e4fda8b", checked := Try.checked }
namespace Rows
def none {H : Type} : Left H := { results := [], args := [] }

/-- 'ignitionlaw04.BusDelays': WHATEVER THE INPUT: true; the input reads as it did. -/
def busDelaysSpec : ChangeSpec := { name := "busDelays", fn := fun _ => fun
  | [d] => { results := [.lit (.bool true)], args := [d] }
  | _ => none }
def busDelaysRow : OpenClaim := { program := "ytlbbhlkbhegegaa", sum := "94a5584a3b4478523fef449815889579ad2d7d9ec5171697622e9e167e4fda8b", func := "ignition/ignitionlaw04.BusDelays", spec := "busDelays", unfollowed := true, recurses := true, apart := false }
def BusDelaysSaid : Prop := busDelaysRow.holds Try.pinned (OpenSpec.ofChange busDelaysSpec)

/-- ITS FALSE NEIGHBOUR: 'it returns false'. Refute it at one input. -/
def busDelaysWrong : ChangeSpec := { name := "busDelays", fn := fun _ => fun
  | [d] => { results := [.lit (.bool false)], args := [d] }
  | _ => none }
def BusDelaysWrongFalsely : Prop := busDelaysRow.holds Try.pinned (OpenSpec.ofChange busDelaysWrong)

/-- 'ignitionlaw04.BusLonger': WHATEVER THE INPUT: true; the input reads as it did. -/
def busLongerSpec : ChangeSpec := { name := "busLonger", fn := fun _ => fun
  | [d1, d2] => { results := [.lit (.bool true)], args := [d1, d2] }
  | _ => none }
def busLongerRow : OpenClaim := { program := "ytlbbhlkbhegegaa", sum := "94a5584a3b4478523fef449815889579ad2d7d9ec5171697622e9e167e4fda8b", func := "ignition/ignitionlaw04.BusLonger", spec := "busLonger", unfollowed := true, recurses := true, apart := false }
def BusLongerSaid : Prop := busLongerRow.holds Try.pinned (OpenSpec.ofChange busLongerSpec)

/-- ITS FALSE NEIGHBOUR: 'it returns false'. Refute it at one input. -/
def busLongerWrong : ChangeSpec := { name := "busLonger", fn := fun _ => fun
  | [d1, d2] => { results := [.lit (.bool false)], args := [d1, d2] }
  | _ => none }
def BusLongerWrongFalsely : Prop := busLongerRow.holds Try.pinned (OpenSpec.ofChange busLongerWrong)

/-- 'ignitionlaw04.BusMore': WHATEVER THE INPUT: true; the input reads as it did. -/
def busMoreSpec : ChangeSpec := { name := "busMore", fn := fun _ => fun
  | [d1, d2] => { results := [.lit (.bool true)], args := [d1, d2] }
  | _ => none }
def busMoreRow : OpenClaim := { program := "ytlbbhlkbhegegaa", sum := "94a5584a3b4478523fef449815889579ad2d7d9ec5171697622e9e167e4fda8b", func := "ignition/ignitionlaw04.BusMore", spec := "busMore", unfollowed := true, recurses := true, apart := false }
def BusMoreSaid : Prop := busMoreRow.holds Try.pinned (OpenSpec.ofChange busMoreSpec)

/-- ITS FALSE NEIGHBOUR: 'it returns false'. Refute it at one input. -/
def busMoreWrong : ChangeSpec := { name := "busMore", fn := fun _ => fun
  | [d1, d2] => { results := [.lit (.bool false)], args := [d1, d2] }
  | _ => none }
def BusMoreWrongFalsely : Prop := busMoreRow.holds Try.pinned (OpenSpec.ofChange busMoreWrong)

/-- 'ignitionlaw04.BusResponds': WHATEVER THE INPUT: true; the input reads as it did. -/
def busRespondsSpec : ChangeSpec := { name := "busResponds", fn := fun _ => fun
  | [d1, d2] => { results := [.lit (.bool true)], args := [d1, d2] }
  | _ => none }
def busRespondsRow : OpenClaim := { program := "ytlbbhlkbhegegaa", sum := "94a5584a3b4478523fef449815889579ad2d7d9ec5171697622e9e167e4fda8b", func := "ignition/ignitionlaw04.BusResponds", spec := "busResponds", unfollowed := true, recurses := true, apart := false }
def BusRespondsSaid : Prop := busRespondsRow.holds Try.pinned (OpenSpec.ofChange busRespondsSpec)

/-- ITS FALSE NEIGHBOUR: 'it returns false'. Refute it at one input. -/
def busRespondsWrong : ChangeSpec := { name := "busResponds", fn := fun _ => fun
  | [d1, d2] => { results := [.lit (.bool false)], args := [d1, d2] }
  | _ => none }
def BusRespondsWrongFalsely : Prop := busRespondsRow.holds Try.pinned (OpenSpec.ofChange busRespondsWrong)

/-- 'ignitionlaw04.BusRanks': WHATEVER THE INPUT: true; the input reads as it did. -/
def busRanksSpec : ChangeSpec := { name := "busRanks", fn := fun _ => fun
  | [d] => { results := [.lit (.bool true)], args := [d] }
  | _ => none }
def busRanksRow : OpenClaim := { program := "ytlbbhlkbhegegaa", sum := "94a5584a3b4478523fef449815889579ad2d7d9ec5171697622e9e167e4fda8b", func := "ignition/ignitionlaw04.BusRanks", spec := "busRanks", unfollowed := true, recurses := true, apart := false }
def BusRanksSaid : Prop := busRanksRow.holds Try.pinned (OpenSpec.ofChange busRanksSpec)

/-- ITS FALSE NEIGHBOUR: 'it returns false'. Refute it at one input. -/
def busRanksWrong : ChangeSpec := { name := "busRanks", fn := fun _ => fun
  | [d] => { results := [.lit (.bool false)], args := [d] }
  | _ => none }
def BusRanksWrongFalsely : Prop := busRanksRow.holds Try.pinned (OpenSpec.ofChange busRanksWrong)

/-- 'ignitionlaw04.BusSlots': WHATEVER THE INPUT: true; the input reads as it did. -/
def busSlotsSpec : ChangeSpec := { name := "busSlots", fn := fun _ => fun
  | [d1, d2] => { results := [.lit (.bool true)], args := [d1, d2] }
  | _ => none }
def busSlotsRow : OpenClaim := { program := "ytlbbhlkbhegegaa", sum := "94a5584a3b4478523fef449815889579ad2d7d9ec5171697622e9e167e4fda8b", func := "ignition/ignitionlaw04.BusSlots", spec := "busSlots", unfollowed := true, recurses := true, apart := false }
def BusSlotsSaid : Prop := busSlotsRow.holds Try.pinned (OpenSpec.ofChange busSlotsSpec)

/-- ITS FALSE NEIGHBOUR: 'it returns false'. Refute it at one input. -/
def busSlotsWrong : ChangeSpec := { name := "busSlots", fn := fun _ => fun
  | [d1, d2] => { results := [.lit (.bool false)], args := [d1, d2] }
  | _ => none }
def BusSlotsWrongFalsely : Prop := busSlotsRow.holds Try.pinned (OpenSpec.ofChange busSlotsWrong)

/-- 'ignitionlaw04.BusRanked': WHATEVER THE INPUT: true; the input reads as it did. -/
def busRankedSpec : ChangeSpec := { name := "busRanked", fn := fun _ => fun
  | [d1, d2] => { results := [.lit (.bool true)], args := [d1, d2] }
  | _ => none }
def busRankedRow : OpenClaim := { program := "ytlbbhlkbhegegaa", sum := "94a5584a3b4478523fef449815889579ad2d7d9ec5171697622e9e167e4fda8b", func := "ignition/ignitionlaw04.BusRanked", spec := "busRanked", unfollowed := true, recurses := true, apart := false }
def BusRankedSaid : Prop := busRankedRow.holds Try.pinned (OpenSpec.ofChange busRankedSpec)

/-- ITS FALSE NEIGHBOUR: 'it returns false'. Refute it at one input. -/
def busRankedWrong : ChangeSpec := { name := "busRanked", fn := fun _ => fun
  | [d1, d2] => { results := [.lit (.bool false)], args := [d1, d2] }
  | _ => none }
def BusRankedWrongFalsely : Prop := busRankedRow.holds Try.pinned (OpenSpec.ofChange busRankedWrong)

/-- 'ignitionlaw04.BusBusy': WHATEVER THE INPUT: true; the input reads as it did. -/
def busBusySpec : ChangeSpec := { name := "busBusy", fn := fun _ => fun
  | [d1, d2] => { results := [.lit (.bool true)], args := [d1, d2] }
  | _ => none }
def busBusyRow : OpenClaim := { program := "ytlbbhlkbhegegaa", sum := "94a5584a3b4478523fef449815889579ad2d7d9ec5171697622e9e167e4fda8b", func := "ignition/ignitionlaw04.BusBusy", spec := "busBusy", unfollowed := true, recurses := true, apart := false }
def BusBusySaid : Prop := busBusyRow.holds Try.pinned (OpenSpec.ofChange busBusySpec)

/-- ITS FALSE NEIGHBOUR: 'it returns false'. Refute it at one input. -/
def busBusyWrong : ChangeSpec := { name := "busBusy", fn := fun _ => fun
  | [d1, d2] => { results := [.lit (.bool false)], args := [d1, d2] }
  | _ => none }
def BusBusyWrongFalsely : Prop := busBusyRow.holds Try.pinned (OpenSpec.ofChange busBusyWrong)

/-- 'ignitionlaw04.BusPlays': WHATEVER THE INPUT: true; the input reads as it did. -/
def busPlaysSpec : ChangeSpec := { name := "busPlays", fn := fun _ => fun
  | [d1, d2, d3] => { results := [.lit (.bool true)], args := [d1, d2, d3] }
  | _ => none }
def busPlaysRow : OpenClaim := { program := "ytlbbhlkbhegegaa", sum := "94a5584a3b4478523fef449815889579ad2d7d9ec5171697622e9e167e4fda8b", func := "ignition/ignitionlaw04.BusPlays", spec := "busPlays", unfollowed := true, recurses := true, apart := false }
def BusPlaysSaid : Prop := busPlaysRow.holds Try.pinned (OpenSpec.ofChange busPlaysSpec)

/-- ITS FALSE NEIGHBOUR: 'it returns false'. Refute it at one input. -/
def busPlaysWrong : ChangeSpec := { name := "busPlays", fn := fun _ => fun
  | [d1, d2, d3] => { results := [.lit (.bool false)], args := [d1, d2, d3] }
  | _ => none }
def BusPlaysWrongFalsely : Prop := busPlaysRow.holds Try.pinned (OpenSpec.ofChange busPlaysWrong)

/-- 'ignitionlaw04.BusNoLater': WHATEVER THE INPUT: true; the input reads as it did. -/
def busNoLaterSpec : ChangeSpec := { name := "busNoLater", fn := fun _ => fun
  | [d1, d2, d3] => { results := [.lit (.bool true)], args := [d1, d2, d3] }
  | _ => none }
def busNoLaterRow : OpenClaim := { program := "ytlbbhlkbhegegaa", sum := "94a5584a3b4478523fef449815889579ad2d7d9ec5171697622e9e167e4fda8b", func := "ignition/ignitionlaw04.BusNoLater", spec := "busNoLater", unfollowed := true, recurses := true, apart := false }
def BusNoLaterSaid : Prop := busNoLaterRow.holds Try.pinned (OpenSpec.ofChange busNoLaterSpec)

/-- ITS FALSE NEIGHBOUR: 'it returns false'. Refute it at one input. -/
def busNoLaterWrong : ChangeSpec := { name := "busNoLater", fn := fun _ => fun
  | [d1, d2, d3] => { results := [.lit (.bool false)], args := [d1, d2, d3] }
  | _ => none }
def BusNoLaterWrongFalsely : Prop := busNoLaterRow.holds Try.pinned (OpenSpec.ofChange busNoLaterWrong)

/-- 'ignitionlaw04.BusSends': WHATEVER THE INPUT: true; the input reads as it did. -/
def busSendsSpec : ChangeSpec := { name := "busSends", fn := fun _ => fun
  | [d1, d2] => { results := [.lit (.bool true)], args := [d1, d2] }
  | _ => none }
def busSendsRow : OpenClaim := { program := "ytlbbhlkbhegegaa", sum := "94a5584a3b4478523fef449815889579ad2d7d9ec5171697622e9e167e4fda8b", func := "ignition/ignitionlaw04.BusSends", spec := "busSends", unfollowed := true, recurses := true, apart := false }
def BusSendsSaid : Prop := busSendsRow.holds Try.pinned (OpenSpec.ofChange busSendsSpec)

/-- ITS FALSE NEIGHBOUR: 'it returns false'. Refute it at one input. -/
def busSendsWrong : ChangeSpec := { name := "busSends", fn := fun _ => fun
  | [d1, d2] => { results := [.lit (.bool false)], args := [d1, d2] }
  | _ => none }
def BusSendsWrongFalsely : Prop := busSendsRow.holds Try.pinned (OpenSpec.ofChange busSendsWrong)

/-- 'ignitionlaw04.BusBytes': WHATEVER THE INPUT: true; the input reads as it did. -/
def busBytesSpec : ChangeSpec := { name := "busBytes", fn := fun _ => fun
  | [d1, d2] => { results := [.lit (.bool true)], args := [d1, d2] }
  | _ => none }
def busBytesRow : OpenClaim := { program := "ytlbbhlkbhegegaa", sum := "94a5584a3b4478523fef449815889579ad2d7d9ec5171697622e9e167e4fda8b", func := "ignition/ignitionlaw04.BusBytes", spec := "busBytes", unfollowed := true, recurses := true, apart := false }
def BusBytesSaid : Prop := busBytesRow.holds Try.pinned (OpenSpec.ofChange busBytesSpec)

/-- ITS FALSE NEIGHBOUR: 'it returns false'. Refute it at one input. -/
def busBytesWrong : ChangeSpec := { name := "busBytes", fn := fun _ => fun
  | [d1, d2] => { results := [.lit (.bool false)], args := [d1, d2] }
  | _ => none }
def BusBytesWrongFalsely : Prop := busBytesRow.holds Try.pinned (OpenSpec.ofChange busBytesWrong)

/-- 'ignitionlaw04.BusSchedules': WHATEVER THE INPUT: true; the input reads as it did. -/
def busSchedulesSpec : ChangeSpec := { name := "busSchedules", fn := fun _ => fun
  | [d] => { results := [.lit (.bool true)], args := [d] }
  | _ => none }
def busSchedulesRow : OpenClaim := { program := "ytlbbhlkbhegegaa", sum := "94a5584a3b4478523fef449815889579ad2d7d9ec5171697622e9e167e4fda8b", func := "ignition/ignitionlaw04.BusSchedules", spec := "busSchedules", unfollowed := true, recurses := true, apart := false }
def BusSchedulesSaid : Prop := busSchedulesRow.holds Try.pinned (OpenSpec.ofChange busSchedulesSpec)

/-- ITS FALSE NEIGHBOUR: 'it returns false'. Refute it at one input. -/
def busSchedulesWrong : ChangeSpec := { name := "busSchedules", fn := fun _ => fun
  | [d] => { results := [.lit (.bool false)], args := [d] }
  | _ => none }
def BusSchedulesWrongFalsely : Prop := busSchedulesRow.holds Try.pinned (OpenSpec.ofChange busSchedulesWrong)

/-- 'ignitionlaw04.BusFits': WHATEVER THE INPUT: true; the input reads as it did. -/
def busFitsSpec : ChangeSpec := { name := "busFits", fn := fun _ => fun
  | [d1, d2] => { results := [.lit (.bool true)], args := [d1, d2] }
  | _ => none }
def busFitsRow : OpenClaim := { program := "ytlbbhlkbhegegaa", sum := "94a5584a3b4478523fef449815889579ad2d7d9ec5171697622e9e167e4fda8b", func := "ignition/ignitionlaw04.BusFits", spec := "busFits", unfollowed := true, recurses := true, apart := false }
def BusFitsSaid : Prop := busFitsRow.holds Try.pinned (OpenSpec.ofChange busFitsSpec)

/-- ITS FALSE NEIGHBOUR: 'it returns false'. Refute it at one input. -/
def busFitsWrong : ChangeSpec := { name := "busFits", fn := fun _ => fun
  | [d1, d2] => { results := [.lit (.bool false)], args := [d1, d2] }
  | _ => none }
def BusFitsWrongFalsely : Prop := busFitsRow.holds Try.pinned (OpenSpec.ofChange busFitsWrong)

/- THE SECOND FORM. 'bulk': how many values and letters a reading holds, each counted each time it is reached (what is shared counts as often as it is met; a slice's spare places count too). A statement '..UptoSaid' is the law's where the arguments, and the package variables that the reading takes, are together of bulk at most 1048576: NARROWER than '..Said'. Prove '..Said' where nothing that the law and all that it calls make is longer than what came in: it says more and counts as full. Else prove '..UptoSaid'. A law counts once. -/
mutual
def uptoBulk {H : Type} : DataW H → Nat
  | .lit (.string bytes) => bytes.length + 1
  | .lit _ => 1
  | .nil => 1
  | .ptr d => uptoBulk d + 1
  | .slice elems spare => uptoBulkAll elems + uptoBulkAll spare + 1
  | .agg parts => uptoBulkAll parts + 1
  | .iface _ d => uptoBulk d + 1
  | .map entries => uptoBulkEntries entries + 1
  | .held _ => 1
def uptoBulkAll {H : Type} : List (DataW H) → Nat
  | [] => 0
  | d :: r => uptoBulk d + uptoBulkAll r
def uptoBulkEntries {H : Type} : List (Lit × DataW H) → Nat
  | [] => 0
  | x :: r => uptoBulkEntry x + uptoBulkEntries r
def uptoBulkEntry {H : Type} : Lit × DataW H → Nat
  | (.string bytes, d) => bytes.length + uptoBulk d + 1
  | (_, d) => uptoBulk d + 1
 end
def uptoSmall : (H : Type) → List (DataW H) → Bool := fun _ ds => decide (uptoBulkAll ds ≤ 1048576)
def OpenSpec.upto (s : _root_.Go.ChangeSpec) : _root_.Go.OpenSpec := { _root_.Go.OpenSpec.ofChange s with cond := some uptoSmall }

/-- 'ignitionlaw04.BusDelays', WHERE WHAT IT READS IS OF BULK AT MOST 1048576: true; the input reads as it did. -/
def busDelaysUptoRow : OpenClaim := { program := "ytlbbhlkbhegegaa", sum := "94a5584a3b4478523fef449815889579ad2d7d9ec5171697622e9e167e4fda8b", func := "ignition/ignitionlaw04.BusDelays", spec := "busDelays", unfollowed := true, recurses := true, apart := false, narrowed := true }
def BusDelaysUptoSaid : Prop := busDelaysUptoRow.holds Try.pinned (OpenSpec.upto busDelaysSpec)

/-- 'ignitionlaw04.BusLonger', WHERE WHAT IT READS IS OF BULK AT MOST 1048576: true; the input reads as it did. -/
def busLongerUptoRow : OpenClaim := { program := "ytlbbhlkbhegegaa", sum := "94a5584a3b4478523fef449815889579ad2d7d9ec5171697622e9e167e4fda8b", func := "ignition/ignitionlaw04.BusLonger", spec := "busLonger", unfollowed := true, recurses := true, apart := false, narrowed := true }
def BusLongerUptoSaid : Prop := busLongerUptoRow.holds Try.pinned (OpenSpec.upto busLongerSpec)

/-- 'ignitionlaw04.BusMore', WHERE WHAT IT READS IS OF BULK AT MOST 1048576: true; the input reads as it did. -/
def busMoreUptoRow : OpenClaim := { program := "ytlbbhlkbhegegaa", sum := "94a5584a3b4478523fef449815889579ad2d7d9ec5171697622e9e167e4fda8b", func := "ignition/ignitionlaw04.BusMore", spec := "busMore", unfollowed := true, recurses := true, apart := false, narrowed := true }
def BusMoreUptoSaid : Prop := busMoreUptoRow.holds Try.pinned (OpenSpec.upto busMoreSpec)

/-- 'ignitionlaw04.BusResponds', WHERE WHAT IT READS IS OF BULK AT MOST 1048576: true; the input reads as it did. -/
def busRespondsUptoRow : OpenClaim := { program := "ytlbbhlkbhegegaa", sum := "94a5584a3b4478523fef449815889579ad2d7d9ec5171697622e9e167e4fda8b", func := "ignition/ignitionlaw04.BusResponds", spec := "busResponds", unfollowed := true, recurses := true, apart := false, narrowed := true }
def BusRespondsUptoSaid : Prop := busRespondsUptoRow.holds Try.pinned (OpenSpec.upto busRespondsSpec)

/-- 'ignitionlaw04.BusRanks', WHERE WHAT IT READS IS OF BULK AT MOST 1048576: true; the input reads as it did. -/
def busRanksUptoRow : OpenClaim := { program := "ytlbbhlkbhegegaa", sum := "94a5584a3b4478523fef449815889579ad2d7d9ec5171697622e9e167e4fda8b", func := "ignition/ignitionlaw04.BusRanks", spec := "busRanks", unfollowed := true, recurses := true, apart := false, narrowed := true }
def BusRanksUptoSaid : Prop := busRanksUptoRow.holds Try.pinned (OpenSpec.upto busRanksSpec)

/-- 'ignitionlaw04.BusSlots', WHERE WHAT IT READS IS OF BULK AT MOST 1048576: true; the input reads as it did. -/
def busSlotsUptoRow : OpenClaim := { program := "ytlbbhlkbhegegaa", sum := "94a5584a3b4478523fef449815889579ad2d7d9ec5171697622e9e167e4fda8b", func := "ignition/ignitionlaw04.BusSlots", spec := "busSlots", unfollowed := true, recurses := true, apart := false, narrowed := true }
def BusSlotsUptoSaid : Prop := busSlotsUptoRow.holds Try.pinned (OpenSpec.upto busSlotsSpec)

/-- 'ignitionlaw04.BusRanked', WHERE WHAT IT READS IS OF BULK AT MOST 1048576: true; the input reads as it did. -/
def busRankedUptoRow : OpenClaim := { program := "ytlbbhlkbhegegaa", sum := "94a5584a3b4478523fef449815889579ad2d7d9ec5171697622e9e167e4fda8b", func := "ignition/ignitionlaw04.BusRanked", spec := "busRanked", unfollowed := true, recurses := true, apart := false, narrowed := true }
def BusRankedUptoSaid : Prop := busRankedUptoRow.holds Try.pinned (OpenSpec.upto busRankedSpec)

/-- 'ignitionlaw04.BusBusy', WHERE WHAT IT READS IS OF BULK AT MOST 1048576: true; the input reads as it did. -/
def busBusyUptoRow : OpenClaim := { program := "ytlbbhlkbhegegaa", sum := "94a5584a3b4478523fef449815889579ad2d7d9ec5171697622e9e167e4fda8b", func := "ignition/ignitionlaw04.BusBusy", spec := "busBusy", unfollowed := true, recurses := true, apart := false, narrowed := true }
def BusBusyUptoSaid : Prop := busBusyUptoRow.holds Try.pinned (OpenSpec.upto busBusySpec)

/-- 'ignitionlaw04.BusPlays', WHERE WHAT IT READS IS OF BULK AT MOST 1048576: true; the input reads as it did. -/
def busPlaysUptoRow : OpenClaim := { program := "ytlbbhlkbhegegaa", sum := "94a5584a3b4478523fef449815889579ad2d7d9ec5171697622e9e167e4fda8b", func := "ignition/ignitionlaw04.BusPlays", spec := "busPlays", unfollowed := true, recurses := true, apart := false, narrowed := true }
def BusPlaysUptoSaid : Prop := busPlaysUptoRow.holds Try.pinned (OpenSpec.upto busPlaysSpec)

/-- 'ignitionlaw04.BusNoLater', WHERE WHAT IT READS IS OF BULK AT MOST 1048576: true; the input reads as it did. -/
def busNoLaterUptoRow : OpenClaim := { program := "ytlbbhlkbhegegaa", sum := "94a5584a3b4478523fef449815889579ad2d7d9ec5171697622e9e167e4fda8b", func := "ignition/ignitionlaw04.BusNoLater", spec := "busNoLater", unfollowed := true, recurses := true, apart := false, narrowed := true }
def BusNoLaterUptoSaid : Prop := busNoLaterUptoRow.holds Try.pinned (OpenSpec.upto busNoLaterSpec)

/-- 'ignitionlaw04.BusSends', WHERE WHAT IT READS IS OF BULK AT MOST 1048576: true; the input reads as it did. -/
def busSendsUptoRow : OpenClaim := { program := "ytlbbhlkbhegegaa", sum := "94a5584a3b4478523fef449815889579ad2d7d9ec5171697622e9e167e4fda8b", func := "ignition/ignitionlaw04.BusSends", spec := "busSends", unfollowed := true, recurses := true, apart := false, narrowed := true }
def BusSendsUptoSaid : Prop := busSendsUptoRow.holds Try.pinned (OpenSpec.upto busSendsSpec)

/-- 'ignitionlaw04.BusBytes', WHERE WHAT IT READS IS OF BULK AT MOST 1048576: true; the input reads as it did. -/
def busBytesUptoRow : OpenClaim := { program := "ytlbbhlkbhegegaa", sum := "94a5584a3b4478523fef449815889579ad2d7d9ec5171697622e9e167e4fda8b", func := "ignition/ignitionlaw04.BusBytes", spec := "busBytes", unfollowed := true, recurses := true, apart := false, narrowed := true }
def BusBytesUptoSaid : Prop := busBytesUptoRow.holds Try.pinned (OpenSpec.upto busBytesSpec)

/-- 'ignitionlaw04.BusSchedules', WHERE WHAT IT READS IS OF BULK AT MOST 1048576: true; the input reads as it did. -/
def busSchedulesUptoRow : OpenClaim := { program := "ytlbbhlkbhegegaa", sum := "94a5584a3b4478523fef449815889579ad2d7d9ec5171697622e9e167e4fda8b", func := "ignition/ignitionlaw04.BusSchedules", spec := "busSchedules", unfollowed := true, recurses := true, apart := false, narrowed := true }
def BusSchedulesUptoSaid : Prop := busSchedulesUptoRow.holds Try.pinned (OpenSpec.upto busSchedulesSpec)

/-- 'ignitionlaw04.BusFits', WHERE WHAT IT READS IS OF BULK AT MOST 1048576: true; the input reads as it did. -/
def busFitsUptoRow : OpenClaim := { program := "ytlbbhlkbhegegaa", sum := "94a5584a3b4478523fef449815889579ad2d7d9ec5171697622e9e167e4fda8b", func := "ignition/ignitionlaw04.BusFits", spec := "busFits", unfollowed := true, recurses := true, apart := false, narrowed := true }
def BusFitsUptoSaid : Prop := busFitsUptoRow.holds Try.pinned (OpenSpec.upto busFitsSpec)

end Rows
end Go.Proofs.Ytlbbhlkbhegegaa
