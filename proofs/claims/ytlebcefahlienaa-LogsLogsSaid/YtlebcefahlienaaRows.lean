/-
  No cell of these rows narrows 'for every input' (looked for: loops, veiled, ifaces, maps, wideKeys, modest, calm, conditions, laid).
  DERIVED. THE GIVEN ROWS OF THIS SEAT. 13 by the template 'for every input the law returns true; each argument reads behind the call as it read before'; 0 by the template 'total and deterministic' (their statements: YtlebcefahlienaaTotals.lean).
  GIVEN WITH THE SEED: the statements are not yours to turn. If you find one false, say at which input.
  Laid BY PROGRAM, IN A SANDBOX (cutbox-rows.mjs): the forced cells as the released guide's own fill.sh prints them over the translation 87bca7844e83e003… (all of the seat's roots in one cut). By AI agents, Wed Nov 11 2026. No macro, syntax, notation, axiom, sorry.
-/
import Derived.Test.YtlebcefahlienaaChecked
import GoSem.Claim
import GoSem.ClaimJoined
import GoSem.ClaimMapViews
import Derived.JoinedTies
import Derived.KernelRfl
namespace Go.Proofs.Ytlebcefahlienaa
/- THE CELL 'sum', in the pinned program and in every row, IS THE sha256 OF THE DUMP (.gsa) THAT YtlebcefahlienaaProg.lean LOADS. Nothing in Lean hashes anything: it is a label: what it is worth is what the hold of that sum in a sandbox is worth. -/
noncomputable def Try.pinned : Pinned := { name := "ytlebcefahlienaa", sum := "87bca7844e83e00308ce861734017d67351f987cb22c04aa5903e29e29245bf9", checked := Try.checked }
namespace Rows
def none {H : Type} : Left H := { results := [], args := [] }

/-- 'tosherlaw07.LogsLogs': WHATEVER THE INPUT: true; the input reads as it did. -/
def logsLogsSpec : ChangeSpec := { name := "logsLogs", fn := fun _ => fun
  | [d1, d2, d3] => { results := [.lit (.bool true)], args := [d1, d2, d3] }
  | _ => none }
def logsLogsRow : OpenClaim := { program := "ytlebcefahlienaa", sum := "87bca7844e83e00308ce861734017d67351f987cb22c04aa5903e29e29245bf9", func := "tosher/tosherlaw07.LogsLogs", spec := "logsLogs", unfollowed := true, recurses := true, apart := false }
def LogsLogsSaid : Prop := logsLogsRow.holds Try.pinned (OpenSpec.ofChange logsLogsSpec)

/-- ITS FALSE NEIGHBOUR: 'it returns false'. Refute it at one input. -/
def logsLogsWrong : ChangeSpec := { name := "logsLogs", fn := fun _ => fun
  | [d1, d2, d3] => { results := [.lit (.bool false)], args := [d1, d2, d3] }
  | _ => none }
def LogsLogsWrongFalsely : Prop := logsLogsRow.holds Try.pinned (OpenSpec.ofChange logsLogsWrong)

/-- 'tosherlaw07.LogsSigns': WHATEVER THE INPUT: true; the input reads as it did. -/
def logsSignsSpec : ChangeSpec := { name := "logsSigns", fn := fun _ => fun
  | [d1, d2] => { results := [.lit (.bool true)], args := [d1, d2] }
  | _ => none }
def logsSignsRow : OpenClaim := { program := "ytlebcefahlienaa", sum := "87bca7844e83e00308ce861734017d67351f987cb22c04aa5903e29e29245bf9", func := "tosher/tosherlaw07.LogsSigns", spec := "logsSigns", unfollowed := true, recurses := true, apart := false }
def LogsSignsSaid : Prop := logsSignsRow.holds Try.pinned (OpenSpec.ofChange logsSignsSpec)

/-- ITS FALSE NEIGHBOUR: 'it returns false'. Refute it at one input. -/
def logsSignsWrong : ChangeSpec := { name := "logsSigns", fn := fun _ => fun
  | [d1, d2] => { results := [.lit (.bool false)], args := [d1, d2] }
  | _ => none }
def LogsSignsWrongFalsely : Prop := logsSignsRow.holds Try.pinned (OpenSpec.ofChange logsSignsWrong)

/-- 'tosherlaw07.LogsWitnesses': WHATEVER THE INPUT: true; the input reads as it did. -/
def logsWitnessesSpec : ChangeSpec := { name := "logsWitnesses", fn := fun _ => fun
  | [d] => { results := [.lit (.bool true)], args := [d] }
  | _ => none }
def logsWitnessesRow : OpenClaim := { program := "ytlebcefahlienaa", sum := "87bca7844e83e00308ce861734017d67351f987cb22c04aa5903e29e29245bf9", func := "tosher/tosherlaw07.LogsWitnesses", spec := "logsWitnesses", unfollowed := true, recurses := true, apart := false }
def LogsWitnessesSaid : Prop := logsWitnessesRow.holds Try.pinned (OpenSpec.ofChange logsWitnessesSpec)

/-- ITS FALSE NEIGHBOUR: 'it returns false'. Refute it at one input. -/
def logsWitnessesWrong : ChangeSpec := { name := "logsWitnesses", fn := fun _ => fun
  | [d] => { results := [.lit (.bool false)], args := [d] }
  | _ => none }
def LogsWitnessesWrongFalsely : Prop := logsWitnessesRow.holds Try.pinned (OpenSpec.ofChange logsWitnessesWrong)

/-- 'tosherlaw07.LogsCoprime': WHATEVER THE INPUT: true; the input reads as it did. -/
def logsCoprimeSpec : ChangeSpec := { name := "logsCoprime", fn := fun _ => fun
  | [d1, d2, d3] => { results := [.lit (.bool true)], args := [d1, d2, d3] }
  | _ => none }
def logsCoprimeRow : OpenClaim := { program := "ytlebcefahlienaa", sum := "87bca7844e83e00308ce861734017d67351f987cb22c04aa5903e29e29245bf9", func := "tosher/tosherlaw07.LogsCoprime", spec := "logsCoprime", unfollowed := true, recurses := true, apart := false }
def LogsCoprimeSaid : Prop := logsCoprimeRow.holds Try.pinned (OpenSpec.ofChange logsCoprimeSpec)

/-- ITS FALSE NEIGHBOUR: 'it returns false'. Refute it at one input. -/
def logsCoprimeWrong : ChangeSpec := { name := "logsCoprime", fn := fun _ => fun
  | [d1, d2, d3] => { results := [.lit (.bool false)], args := [d1, d2, d3] }
  | _ => none }
def LogsCoprimeWrongFalsely : Prop := logsCoprimeRow.holds Try.pinned (OpenSpec.ofChange logsCoprimeWrong)

/-- 'tosherlaw07.LogsRoots': WHATEVER THE INPUT: true; the input reads as it did. -/
def logsRootsSpec : ChangeSpec := { name := "logsRoots", fn := fun _ => fun
  | [d1, d2, d3] => { results := [.lit (.bool true)], args := [d1, d2, d3] }
  | _ => none }
def logsRootsRow : OpenClaim := { program := "ytlebcefahlienaa", sum := "87bca7844e83e00308ce861734017d67351f987cb22c04aa5903e29e29245bf9", func := "tosher/tosherlaw07.LogsRoots", spec := "logsRoots", unfollowed := true, recurses := true, apart := false }
def LogsRootsSaid : Prop := logsRootsRow.holds Try.pinned (OpenSpec.ofChange logsRootsSpec)

/-- ITS FALSE NEIGHBOUR: 'it returns false'. Refute it at one input. -/
def logsRootsWrong : ChangeSpec := { name := "logsRoots", fn := fun _ => fun
  | [d1, d2, d3] => { results := [.lit (.bool false)], args := [d1, d2, d3] }
  | _ => none }
def LogsRootsWrongFalsely : Prop := logsRootsRow.holds Try.pinned (OpenSpec.ofChange logsRootsWrong)

/-- 'tosherlaw07.LogsBases': WHATEVER THE INPUT: true; the input reads as it did. -/
def logsBasesSpec : ChangeSpec := { name := "logsBases", fn := fun _ => fun
  | [d] => { results := [.lit (.bool true)], args := [d] }
  | _ => none }
def logsBasesRow : OpenClaim := { program := "ytlebcefahlienaa", sum := "87bca7844e83e00308ce861734017d67351f987cb22c04aa5903e29e29245bf9", func := "tosher/tosherlaw07.LogsBases", spec := "logsBases", unfollowed := true, recurses := true, apart := false }
def LogsBasesSaid : Prop := logsBasesRow.holds Try.pinned (OpenSpec.ofChange logsBasesSpec)

/-- ITS FALSE NEIGHBOUR: 'it returns false'. Refute it at one input. -/
def logsBasesWrong : ChangeSpec := { name := "logsBases", fn := fun _ => fun
  | [d] => { results := [.lit (.bool false)], args := [d] }
  | _ => none }
def LogsBasesWrongFalsely : Prop := logsBasesRow.holds Try.pinned (OpenSpec.ofChange logsBasesWrong)

/-- 'tosherlaw07.LogsJacobi': WHATEVER THE INPUT: true; the input reads as it did. -/
def logsJacobiSpec : ChangeSpec := { name := "logsJacobi", fn := fun _ => fun
  | [d1, d2, d3] => { results := [.lit (.bool true)], args := [d1, d2, d3] }
  | _ => none }
def logsJacobiRow : OpenClaim := { program := "ytlebcefahlienaa", sum := "87bca7844e83e00308ce861734017d67351f987cb22c04aa5903e29e29245bf9", func := "tosher/tosherlaw07.LogsJacobi", spec := "logsJacobi", unfollowed := true, recurses := true, apart := false }
def LogsJacobiSaid : Prop := logsJacobiRow.holds Try.pinned (OpenSpec.ofChange logsJacobiSpec)

/-- ITS FALSE NEIGHBOUR: 'it returns false'. Refute it at one input. -/
def logsJacobiWrong : ChangeSpec := { name := "logsJacobi", fn := fun _ => fun
  | [d1, d2, d3] => { results := [.lit (.bool false)], args := [d1, d2, d3] }
  | _ => none }
def LogsJacobiWrongFalsely : Prop := logsJacobiRow.holds Try.pinned (OpenSpec.ofChange logsJacobiWrong)

/-- 'tosherlaw07.LogsEuler': WHATEVER THE INPUT: true; the input reads as it did. -/
def logsEulerSpec : ChangeSpec := { name := "logsEuler", fn := fun _ => fun
  | [d] => { results := [.lit (.bool true)], args := [d] }
  | _ => none }
def logsEulerRow : OpenClaim := { program := "ytlebcefahlienaa", sum := "87bca7844e83e00308ce861734017d67351f987cb22c04aa5903e29e29245bf9", func := "tosher/tosherlaw07.LogsEuler", spec := "logsEuler", unfollowed := true, recurses := true, apart := false }
def LogsEulerSaid : Prop := logsEulerRow.holds Try.pinned (OpenSpec.ofChange logsEulerSpec)

/-- ITS FALSE NEIGHBOUR: 'it returns false'. Refute it at one input. -/
def logsEulerWrong : ChangeSpec := { name := "logsEuler", fn := fun _ => fun
  | [d] => { results := [.lit (.bool false)], args := [d] }
  | _ => none }
def LogsEulerWrongFalsely : Prop := logsEulerRow.holds Try.pinned (OpenSpec.ofChange logsEulerWrong)

/-- 'tosherlaw07.LogsGroups': WHATEVER THE INPUT: true; the input reads as it did. -/
def logsGroupsSpec : ChangeSpec := { name := "logsGroups", fn := fun _ => fun
  | [d] => { results := [.lit (.bool true)], args := [d] }
  | _ => none }
def logsGroupsRow : OpenClaim := { program := "ytlebcefahlienaa", sum := "87bca7844e83e00308ce861734017d67351f987cb22c04aa5903e29e29245bf9", func := "tosher/tosherlaw07.LogsGroups", spec := "logsGroups", unfollowed := true, recurses := true, apart := false }
def LogsGroupsSaid : Prop := logsGroupsRow.holds Try.pinned (OpenSpec.ofChange logsGroupsSpec)

/-- ITS FALSE NEIGHBOUR: 'it returns false'. Refute it at one input. -/
def logsGroupsWrong : ChangeSpec := { name := "logsGroups", fn := fun _ => fun
  | [d] => { results := [.lit (.bool false)], args := [d] }
  | _ => none }
def LogsGroupsWrongFalsely : Prop := logsGroupsRow.holds Try.pinned (OpenSpec.ofChange logsGroupsWrong)

/-- 'tosherlaw07.LogsOrders': WHATEVER THE INPUT: true; the input reads as it did. -/
def logsOrdersSpec : ChangeSpec := { name := "logsOrders", fn := fun _ => fun
  | [d1, d2, d3] => { results := [.lit (.bool true)], args := [d1, d2, d3] }
  | _ => none }
def logsOrdersRow : OpenClaim := { program := "ytlebcefahlienaa", sum := "87bca7844e83e00308ce861734017d67351f987cb22c04aa5903e29e29245bf9", func := "tosher/tosherlaw07.LogsOrders", spec := "logsOrders", unfollowed := true, recurses := true, apart := false }
def LogsOrdersSaid : Prop := logsOrdersRow.holds Try.pinned (OpenSpec.ofChange logsOrdersSpec)

/-- ITS FALSE NEIGHBOUR: 'it returns false'. Refute it at one input. -/
def logsOrdersWrong : ChangeSpec := { name := "logsOrders", fn := fun _ => fun
  | [d1, d2, d3] => { results := [.lit (.bool false)], args := [d1, d2, d3] }
  | _ => none }
def LogsOrdersWrongFalsely : Prop := logsOrdersRow.holds Try.pinned (OpenSpec.ofChange logsOrdersWrong)

/-- 'tosherlaw07.LogsCarmichael': WHATEVER THE INPUT: true; the input reads as it did. -/
def logsCarmichaelSpec : ChangeSpec := { name := "logsCarmichael", fn := fun _ => fun
  | [d1, d2, d3] => { results := [.lit (.bool true)], args := [d1, d2, d3] }
  | _ => none }
def logsCarmichaelRow : OpenClaim := { program := "ytlebcefahlienaa", sum := "87bca7844e83e00308ce861734017d67351f987cb22c04aa5903e29e29245bf9", func := "tosher/tosherlaw07.LogsCarmichael", spec := "logsCarmichael", unfollowed := true, recurses := true, apart := false }
def LogsCarmichaelSaid : Prop := logsCarmichaelRow.holds Try.pinned (OpenSpec.ofChange logsCarmichaelSpec)

/-- ITS FALSE NEIGHBOUR: 'it returns false'. Refute it at one input. -/
def logsCarmichaelWrong : ChangeSpec := { name := "logsCarmichael", fn := fun _ => fun
  | [d1, d2, d3] => { results := [.lit (.bool false)], args := [d1, d2, d3] }
  | _ => none }
def LogsCarmichaelWrongFalsely : Prop := logsCarmichaelRow.holds Try.pinned (OpenSpec.ofChange logsCarmichaelWrong)

/-- 'tosherlaw07.LogsCounts': WHATEVER THE INPUT: true; the input reads as it did. -/
def logsCountsSpec : ChangeSpec := { name := "logsCounts", fn := fun _ => fun
  | [d1, d2] => { results := [.lit (.bool true)], args := [d1, d2] }
  | _ => none }
def logsCountsRow : OpenClaim := { program := "ytlebcefahlienaa", sum := "87bca7844e83e00308ce861734017d67351f987cb22c04aa5903e29e29245bf9", func := "tosher/tosherlaw07.LogsCounts", spec := "logsCounts", unfollowed := true, recurses := true, apart := false }
def LogsCountsSaid : Prop := logsCountsRow.holds Try.pinned (OpenSpec.ofChange logsCountsSpec)

/-- ITS FALSE NEIGHBOUR: 'it returns false'. Refute it at one input. -/
def logsCountsWrong : ChangeSpec := { name := "logsCounts", fn := fun _ => fun
  | [d1, d2] => { results := [.lit (.bool false)], args := [d1, d2] }
  | _ => none }
def LogsCountsWrongFalsely : Prop := logsCountsRow.holds Try.pinned (OpenSpec.ofChange logsCountsWrong)

/-- 'tosherlaw07.LogsChecks': WHATEVER THE INPUT: true; the input reads as it did. -/
def logsChecksSpec : ChangeSpec := { name := "logsChecks", fn := fun _ => fun
  | [d1, d2, d3] => { results := [.lit (.bool true)], args := [d1, d2, d3] }
  | _ => none }
def logsChecksRow : OpenClaim := { program := "ytlebcefahlienaa", sum := "87bca7844e83e00308ce861734017d67351f987cb22c04aa5903e29e29245bf9", func := "tosher/tosherlaw07.LogsChecks", spec := "logsChecks", unfollowed := true, recurses := true, apart := false }
def LogsChecksSaid : Prop := logsChecksRow.holds Try.pinned (OpenSpec.ofChange logsChecksSpec)

/-- ITS FALSE NEIGHBOUR: 'it returns false'. Refute it at one input. -/
def logsChecksWrong : ChangeSpec := { name := "logsChecks", fn := fun _ => fun
  | [d1, d2, d3] => { results := [.lit (.bool false)], args := [d1, d2, d3] }
  | _ => none }
def LogsChecksWrongFalsely : Prop := logsChecksRow.holds Try.pinned (OpenSpec.ofChange logsChecksWrong)

/- THE SECOND FORM. 'bulk': how many values and letters a reading holds, each counted each time it is reached (what is shared counts as often as it is met; a slice's spare places count too). A statement '..UptoSaid' is the law's where the arguments, and the package variables that the reading takes, are together of bulk at most 1048576: NARROWER than '..Said'. Prove '..Said' where nothing that the law and all that it calls make is longer than what came in: it says more and counts as full. Else prove '..UptoSaid'. A law counts once. -/
mutual
def uptoBulk {H : Type} : DataW H → Nat
  | .lit (.string bytes) => bytes.length + 1
  | .lit _ => 1
  | .nil => 1
  | .ptr d => uptoBulk d + 1
  | .slice elems spare => uptoBulkAll elems + uptoBulkAll spare + 1
  | .agg parts => uptoBulkAll parts + 1
  | .iface _ d => uptoBulk d + 1
  | .map entries => uptoBulkEntries entries + 1
  | .held _ => 1
def uptoBulkAll {H : Type} : List (DataW H) → Nat
  | [] => 0
  | d :: r => uptoBulk d + uptoBulkAll r
def uptoBulkEntries {H : Type} : List (Lit × DataW H) → Nat
  | [] => 0
  | x :: r => uptoBulkEntry x + uptoBulkEntries r
def uptoBulkEntry {H : Type} : Lit × DataW H → Nat
  | (.string bytes, d) => bytes.length + uptoBulk d + 1
  | (_, d) => uptoBulk d + 1
 end
def uptoSmall : (H : Type) → List (DataW H) → Bool := fun _ ds => decide (uptoBulkAll ds ≤ 1048576)
def OpenSpec.upto (s : _root_.Go.ChangeSpec) : _root_.Go.OpenSpec := { _root_.Go.OpenSpec.ofChange s with cond := some uptoSmall }

/-- 'tosherlaw07.LogsLogs', WHERE WHAT IT READS IS OF BULK AT MOST 1048576: true; the input reads as it did. -/
def logsLogsUptoRow : OpenClaim := { program := "ytlebcefahlienaa", sum := "87bca7844e83e00308ce861734017d67351f987cb22c04aa5903e29e29245bf9", func := "tosher/tosherlaw07.LogsLogs", spec := "logsLogs", unfollowed := true, recurses := true, apart := false, narrowed := true }
def LogsLogsUptoSaid : Prop := logsLogsUptoRow.holds Try.pinned (OpenSpec.upto logsLogsSpec)

/-- 'tosherlaw07.LogsSigns', WHERE WHAT IT READS IS OF BULK AT MOST 1048576: true; the input reads as it did. -/
def logsSignsUptoRow : OpenClaim := { program := "ytlebcefahlienaa", sum := "87bca7844e83e00308ce861734017d67351f987cb22c04aa5903e29e29245bf9", func := "tosher/tosherlaw07.LogsSigns", spec := "logsSigns", unfollowed := true, recurses := true, apart := false, narrowed := true }
def LogsSignsUptoSaid : Prop := logsSignsUptoRow.holds Try.pinned (OpenSpec.upto logsSignsSpec)

/-- 'tosherlaw07.LogsWitnesses', WHERE WHAT IT READS IS OF BULK AT MOST 1048576: true; the input reads as it did. -/
def logsWitnessesUptoRow : OpenClaim := { program := "ytlebcefahlienaa", sum := "87bca7844e83e00308ce861734017d67351f987cb22c04aa5903e29e29245bf9", func := "tosher/tosherlaw07.LogsWitnesses", spec := "logsWitnesses", unfollowed := true, recurses := true, apart := false, narrowed := true }
def LogsWitnessesUptoSaid : Prop := logsWitnessesUptoRow.holds Try.pinned (OpenSpec.upto logsWitnessesSpec)

/-- 'tosherlaw07.LogsCoprime', WHERE WHAT IT READS IS OF BULK AT MOST 1048576: true; the input reads as it did. -/
def logsCoprimeUptoRow : OpenClaim := { program := "ytlebcefahlienaa", sum := "87bca7844e83e00308ce861734017d67351f987cb22c04aa5903e29e29245bf9", func := "tosher/tosherlaw07.LogsCoprime", spec := "logsCoprime", unfollowed := true, recurses := true, apart := false, narrowed := true }
def LogsCoprimeUptoSaid : Prop := logsCoprimeUptoRow.holds Try.pinned (OpenSpec.upto logsCoprimeSpec)

/-- 'tosherlaw07.LogsRoots', WHERE WHAT IT READS IS OF BULK AT MOST 1048576: true; the input reads as it did. -/
def logsRootsUptoRow : OpenClaim := { program := "ytlebcefahlienaa", sum := "87bca7844e83e00308ce861734017d67351f987cb22c04aa5903e29e29245bf9", func := "tosher/tosherlaw07.LogsRoots", spec := "logsRoots", unfollowed := true, recurses := true, apart := false, narrowed := true }
def LogsRootsUptoSaid : Prop := logsRootsUptoRow.holds Try.pinned (OpenSpec.upto logsRootsSpec)

/-- 'tosherlaw07.LogsBases', WHERE WHAT IT READS IS OF BULK AT MOST 1048576: true; the input reads as it did. -/
def logsBasesUptoRow : OpenClaim := { program := "ytlebcefahlienaa", sum := "87bca7844e83e00308ce861734017d67351f987cb22c04aa5903e29e29245bf9", func := "tosher/tosherlaw07.LogsBases", spec := "logsBases", unfollowed := true, recurses := true, apart := false, narrowed := true }
def LogsBasesUptoSaid : Prop := logsBasesUptoRow.holds Try.pinned (OpenSpec.upto logsBasesSpec)

/-- 'tosherlaw07.LogsJacobi', WHERE WHAT IT READS IS OF BULK AT MOST 1048576: true; the input reads as it did. -/
def logsJacobiUptoRow : OpenClaim := { program := "ytlebcefahlienaa", sum := "87bca7844e83e00308ce861734017d67351f987cb22c04aa5903e29e29245bf9", func := "tosher/tosherlaw07.LogsJacobi", spec := "logsJacobi", unfollowed := true, recurses := true, apart := false, narrowed := true }
def LogsJacobiUptoSaid : Prop := logsJacobiUptoRow.holds Try.pinned (OpenSpec.upto logsJacobiSpec)

/-- 'tosherlaw07.LogsEuler', WHERE WHAT IT READS IS OF BULK AT MOST 1048576: true; the input reads as it did. -/
def logsEulerUptoRow : OpenClaim := { program := "ytlebcefahlienaa", sum := "87bca7844e83e00308ce861734017d67351f987cb22c04aa5903e29e29245bf9", func := "tosher/tosherlaw07.LogsEuler", spec := "logsEuler", unfollowed := true, recurses := true, apart := false, narrowed := true }
def LogsEulerUptoSaid : Prop := logsEulerUptoRow.holds Try.pinned (OpenSpec.upto logsEulerSpec)

/-- 'tosherlaw07.LogsGroups', WHERE WHAT IT READS IS OF BULK AT MOST 1048576: true; the input reads as it did. -/
def logsGroupsUptoRow : OpenClaim := { program := "ytlebcefahlienaa", sum := "87bca7844e83e00308ce861734017d67351f987cb22c04aa5903e29e29245bf9", func := "tosher/tosherlaw07.LogsGroups", spec := "logsGroups", unfollowed := true, recurses := true, apart := false, narrowed := true }
def LogsGroupsUptoSaid : Prop := logsGroupsUptoRow.holds Try.pinned (OpenSpec.upto logsGroupsSpec)

/-- 'tosherlaw07.LogsOrders', WHERE WHAT IT READS IS OF BULK AT MOST 1048576: true; the input reads as it did. -/
def logsOrdersUptoRow : OpenClaim := { program := "ytlebcefahlienaa", sum := "87bca7844e83e00308ce861734017d67351f987cb22c04aa5903e29e29245bf9", func := "tosher/tosherlaw07.LogsOrders", spec := "logsOrders", unfollowed := true, recurses := true, apart := false, narrowed := true }
def LogsOrdersUptoSaid : Prop := logsOrdersUptoRow.holds Try.pinned (OpenSpec.upto logsOrdersSpec)

/-- 'tosherlaw07.LogsCarmichael', WHERE WHAT IT READS IS OF BULK AT MOST 1048576: true; the input reads as it did. -/
def logsCarmichaelUptoRow : OpenClaim := { program := "ytlebcefahlienaa", sum := "87bca7844e83e00308ce861734017d67351f987cb22c04aa5903e29e29245bf9", func := "tosher/tosherlaw07.LogsCarmichael", spec := "logsCarmichael", unfollowed := true, recurses := true, apart := false, narrowed := true }
def LogsCarmichaelUptoSaid : Prop := logsCarmichaelUptoRow.holds Try.pinned (OpenSpec.upto logsCarmichaelSpec)

/-- 'tosherlaw07.LogsCounts', WHERE WHAT IT READS IS OF BULK AT MOST 1048576: true; the input reads as it did. -/
def logsCountsUptoRow : OpenClaim := { program := "ytlebcefahlienaa", sum := "87bca7844e83e00308ce861734017d67351f987cb22c04aa5903e29e29245bf9", func := "tosher/tosherlaw07.LogsCounts", spec := "logsCounts", unfollowed := true, recurses := true, apart := false, narrowed := true }
def LogsCountsUptoSaid : Prop := logsCountsUptoRow.holds Try.pinned (OpenSpec.upto logsCountsSpec)

/-- 'tosherlaw07.LogsChecks', WHERE WHAT IT READS IS OF BULK AT MOST 1048576: true; the input reads as it did. -/
def logsChecksUptoRow : OpenClaim := { program := "ytlebcefahlienaa", sum := "87bca7844e83e00308ce861734017d67351f987cb22c04aa5903e29e29245bf9", func := "tosher/tosherlaw07.LogsChecks", spec := "logsChecks", unfollowed := true, recurses := true, apart := false, narrowed := true }
def LogsChecksUptoSaid : Prop := logsChecksUptoRow.holds Try.pinned (OpenSpec.upto logsChecksSpec)

end Rows
end Go.Proofs.Ytlebcefahlienaa
