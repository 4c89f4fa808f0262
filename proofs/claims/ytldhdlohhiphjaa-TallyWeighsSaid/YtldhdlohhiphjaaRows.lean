/-
  No cell of these rows narrows 'for every input' (looked for: loops, veiled, ifaces, maps, wideKeys, modest, calm, conditions, laid).
  DERIVED. THE GIVEN ROWS OF THIS SEAT. 14 by the template 'for every input the law returns true; each argument reads behind the call as it read before'; 0 by the template 'total and deterministic' (their statements: YtldhdlohhiphjaaTotals.lean).
  GIVEN WITH THE SEED: the statements are not yours to turn. If you find one false, say at which input.
  Laid BY PROGRAM, IN A SANDBOX (cutbox-rows.mjs): the forced cells as the released guide's own fill.sh prints them over the translation 4d04d4d9f9ea6a62… (all of the seat's roots in one cut). By AI agents, Wed Nov 11 2026. No macro, syntax, notation, axiom, sorry.
-/
import Derived.Test.YtldhdlohhiphjaaChecked
import GoSem.Claim
import GoSem.ClaimJoined
import GoSem.ClaimMapViews
import Derived.JoinedTies
import Derived.KernelRfl
namespace Go.Proofs.Ytldhdlohhiphjaa
/- THE CELL 'sum', in the pinned program and in every row, IS THE sha256 OF THE DUMP (.gsa) THAT YtldhdlohhiphjaaProg.lean LOADS. Nothing in Lean hashes anything: it is a label: what it is worth is what the hold of that sum in a sandbox is worth. -/
noncomputable def Try.pinned : Pinned := { name := "ytldhdlohhiphjaa", sum := "4d04d4d9f9ea6a62601edfd3f81adfdd8106f46cb7d48128480975ee338907a9", checked := Try.checked }
namespace Rows
def none {H : Type} : Left H := { results := [], args := [] }

/-- 'tosherlaw06.TallyTrue': WHATEVER THE INPUT: true; the input reads as it did. -/
def tallyTrueSpec : ChangeSpec := { name := "tallyTrue", fn := fun _ => fun
  | [d1, d2, d3] => { results := [.lit (.bool true)], args := [d1, d2, d3] }
  | _ => none }
def tallyTrueRow : OpenClaim := { program := "ytldhdlohhiphjaa", sum := "4d04d4d9f9ea6a62601edfd3f81adfdd8106f46cb7d48128480975ee338907a9", func := "tosher/tosherlaw06.TallyTrue", spec := "tallyTrue", unfollowed := true, recurses := true, plainKeys := false, apart := false }
def TallyTrueSaid : Prop := tallyTrueRow.holds Try.pinned (OpenSpec.ofChange tallyTrueSpec)

/-- ITS FALSE NEIGHBOUR: 'it returns false'. Refute it at one input. -/
def tallyTrueWrong : ChangeSpec := { name := "tallyTrue", fn := fun _ => fun
  | [d1, d2, d3] => { results := [.lit (.bool false)], args := [d1, d2, d3] }
  | _ => none }
def TallyTrueWrongFalsely : Prop := tallyTrueRow.holds Try.pinned (OpenSpec.ofChange tallyTrueWrong)

/-- 'tosherlaw06.TallyKept': WHATEVER THE INPUT: true; the input reads as it did. -/
def tallyKeptSpec : ChangeSpec := { name := "tallyKept", fn := fun _ => fun
  | [d1, d2, d3] => { results := [.lit (.bool true)], args := [d1, d2, d3] }
  | _ => none }
def tallyKeptRow : OpenClaim := { program := "ytldhdlohhiphjaa", sum := "4d04d4d9f9ea6a62601edfd3f81adfdd8106f46cb7d48128480975ee338907a9", func := "tosher/tosherlaw06.TallyKept", spec := "tallyKept", unfollowed := true, recurses := true, plainKeys := false, apart := false }
def TallyKeptSaid : Prop := tallyKeptRow.holds Try.pinned (OpenSpec.ofChange tallyKeptSpec)

/-- ITS FALSE NEIGHBOUR: 'it returns false'. Refute it at one input. -/
def tallyKeptWrong : ChangeSpec := { name := "tallyKept", fn := fun _ => fun
  | [d1, d2, d3] => { results := [.lit (.bool false)], args := [d1, d2, d3] }
  | _ => none }
def TallyKeptWrongFalsely : Prop := tallyKeptRow.holds Try.pinned (OpenSpec.ofChange tallyKeptWrong)

/-- 'tosherlaw06.TallyDecides': WHATEVER THE INPUT: true; the input reads as it did. -/
def tallyDecidesSpec : ChangeSpec := { name := "tallyDecides", fn := fun _ => fun
  | [d1, d2] => { results := [.lit (.bool true)], args := [d1, d2] }
  | _ => none }
def tallyDecidesRow : OpenClaim := { program := "ytldhdlohhiphjaa", sum := "4d04d4d9f9ea6a62601edfd3f81adfdd8106f46cb7d48128480975ee338907a9", func := "tosher/tosherlaw06.TallyDecides", spec := "tallyDecides", unfollowed := true, recurses := true, plainKeys := false, apart := false }
def TallyDecidesSaid : Prop := tallyDecidesRow.holds Try.pinned (OpenSpec.ofChange tallyDecidesSpec)

/-- ITS FALSE NEIGHBOUR: 'it returns false'. Refute it at one input. -/
def tallyDecidesWrong : ChangeSpec := { name := "tallyDecides", fn := fun _ => fun
  | [d1, d2] => { results := [.lit (.bool false)], args := [d1, d2] }
  | _ => none }
def TallyDecidesWrongFalsely : Prop := tallyDecidesRow.holds Try.pinned (OpenSpec.ofChange tallyDecidesWrong)

/-- 'tosherlaw06.TallyStays': WHATEVER THE INPUT: true; the input reads as it did. -/
def tallyStaysSpec : ChangeSpec := { name := "tallyStays", fn := fun _ => fun
  | [d1, d2, d3] => { results := [.lit (.bool true)], args := [d1, d2, d3] }
  | _ => none }
def tallyStaysRow : OpenClaim := { program := "ytldhdlohhiphjaa", sum := "4d04d4d9f9ea6a62601edfd3f81adfdd8106f46cb7d48128480975ee338907a9", func := "tosher/tosherlaw06.TallyStays", spec := "tallyStays", unfollowed := true, recurses := true, plainKeys := false, apart := false }
def TallyStaysSaid : Prop := tallyStaysRow.holds Try.pinned (OpenSpec.ofChange tallyStaysSpec)

/-- ITS FALSE NEIGHBOUR: 'it returns false'. Refute it at one input. -/
def tallyStaysWrong : ChangeSpec := { name := "tallyStays", fn := fun _ => fun
  | [d1, d2, d3] => { results := [.lit (.bool false)], args := [d1, d2, d3] }
  | _ => none }
def TallyStaysWrongFalsely : Prop := tallyStaysRow.holds Try.pinned (OpenSpec.ofChange tallyStaysWrong)

/-- 'tosherlaw06.TallyMeets': WHATEVER THE INPUT: true; the input reads as it did. -/
def tallyMeetsSpec : ChangeSpec := { name := "tallyMeets", fn := fun _ => fun
  | [d1, d2, d3] => { results := [.lit (.bool true)], args := [d1, d2, d3] }
  | _ => none }
def tallyMeetsRow : OpenClaim := { program := "ytldhdlohhiphjaa", sum := "4d04d4d9f9ea6a62601edfd3f81adfdd8106f46cb7d48128480975ee338907a9", func := "tosher/tosherlaw06.TallyMeets", spec := "tallyMeets", unfollowed := true, recurses := true, plainKeys := false, apart := false }
def TallyMeetsSaid : Prop := tallyMeetsRow.holds Try.pinned (OpenSpec.ofChange tallyMeetsSpec)

/-- ITS FALSE NEIGHBOUR: 'it returns false'. Refute it at one input. -/
def tallyMeetsWrong : ChangeSpec := { name := "tallyMeets", fn := fun _ => fun
  | [d1, d2, d3] => { results := [.lit (.bool false)], args := [d1, d2, d3] }
  | _ => none }
def TallyMeetsWrongFalsely : Prop := tallyMeetsRow.holds Try.pinned (OpenSpec.ofChange tallyMeetsWrong)

/-- 'tosherlaw06.TallyRenamed': WHATEVER THE INPUT: true; the input reads as it did. -/
def tallyRenamedSpec : ChangeSpec := { name := "tallyRenamed", fn := fun _ => fun
  | [d1, d2, d3] => { results := [.lit (.bool true)], args := [d1, d2, d3] }
  | _ => none }
def tallyRenamedRow : OpenClaim := { program := "ytldhdlohhiphjaa", sum := "4d04d4d9f9ea6a62601edfd3f81adfdd8106f46cb7d48128480975ee338907a9", func := "tosher/tosherlaw06.TallyRenamed", spec := "tallyRenamed", unfollowed := true, recurses := true, plainKeys := false, apart := false }
def TallyRenamedSaid : Prop := tallyRenamedRow.holds Try.pinned (OpenSpec.ofChange tallyRenamedSpec)

/-- ITS FALSE NEIGHBOUR: 'it returns false'. Refute it at one input. -/
def tallyRenamedWrong : ChangeSpec := { name := "tallyRenamed", fn := fun _ => fun
  | [d1, d2, d3] => { results := [.lit (.bool false)], args := [d1, d2, d3] }
  | _ => none }
def TallyRenamedWrongFalsely : Prop := tallyRenamedRow.holds Try.pinned (OpenSpec.ofChange tallyRenamedWrong)

/-- 'tosherlaw06.TallyForbids': WHATEVER THE INPUT: true; the input reads as it did. -/
def tallyForbidsSpec : ChangeSpec := { name := "tallyForbids", fn := fun _ => fun
  | [d1, d2] => { results := [.lit (.bool true)], args := [d1, d2] }
  | _ => none }
def tallyForbidsRow : OpenClaim := { program := "ytldhdlohhiphjaa", sum := "4d04d4d9f9ea6a62601edfd3f81adfdd8106f46cb7d48128480975ee338907a9", func := "tosher/tosherlaw06.TallyForbids", spec := "tallyForbids", unfollowed := true, recurses := true, plainKeys := false, apart := false }
def TallyForbidsSaid : Prop := tallyForbidsRow.holds Try.pinned (OpenSpec.ofChange tallyForbidsSpec)

/-- ITS FALSE NEIGHBOUR: 'it returns false'. Refute it at one input. -/
def tallyForbidsWrong : ChangeSpec := { name := "tallyForbids", fn := fun _ => fun
  | [d1, d2] => { results := [.lit (.bool false)], args := [d1, d2] }
  | _ => none }
def TallyForbidsWrongFalsely : Prop := tallyForbidsRow.holds Try.pinned (OpenSpec.ofChange tallyForbidsWrong)

/-- 'tosherlaw06.TallyOwn': WHATEVER THE INPUT: true; the input reads as it did. -/
def tallyOwnSpec : ChangeSpec := { name := "tallyOwn", fn := fun _ => fun
  | [d1, d2] => { results := [.lit (.bool true)], args := [d1, d2] }
  | _ => none }
def tallyOwnRow : OpenClaim := { program := "ytldhdlohhiphjaa", sum := "4d04d4d9f9ea6a62601edfd3f81adfdd8106f46cb7d48128480975ee338907a9", func := "tosher/tosherlaw06.TallyOwn", spec := "tallyOwn", unfollowed := true, recurses := true, plainKeys := false, apart := false }
def TallyOwnSaid : Prop := tallyOwnRow.holds Try.pinned (OpenSpec.ofChange tallyOwnSpec)

/-- ITS FALSE NEIGHBOUR: 'it returns false'. Refute it at one input. -/
def tallyOwnWrong : ChangeSpec := { name := "tallyOwn", fn := fun _ => fun
  | [d1, d2] => { results := [.lit (.bool false)], args := [d1, d2] }
  | _ => none }
def TallyOwnWrongFalsely : Prop := tallyOwnRow.holds Try.pinned (OpenSpec.ofChange tallyOwnWrong)

/-- 'tosherlaw06.TallyWays': WHATEVER THE INPUT: true; the input reads as it did. -/
def tallyWaysSpec : ChangeSpec := { name := "tallyWays", fn := fun _ => fun
  | [d1, d2] => { results := [.lit (.bool true)], args := [d1, d2] }
  | _ => none }
def tallyWaysRow : OpenClaim := { program := "ytldhdlohhiphjaa", sum := "4d04d4d9f9ea6a62601edfd3f81adfdd8106f46cb7d48128480975ee338907a9", func := "tosher/tosherlaw06.TallyWays", spec := "tallyWays", unfollowed := true, recurses := true, plainKeys := false, apart := false }
def TallyWaysSaid : Prop := tallyWaysRow.holds Try.pinned (OpenSpec.ofChange tallyWaysSpec)

/-- ITS FALSE NEIGHBOUR: 'it returns false'. Refute it at one input. -/
def tallyWaysWrong : ChangeSpec := { name := "tallyWays", fn := fun _ => fun
  | [d1, d2] => { results := [.lit (.bool false)], args := [d1, d2] }
  | _ => none }
def TallyWaysWrongFalsely : Prop := tallyWaysRow.holds Try.pinned (OpenSpec.ofChange tallyWaysWrong)

/-- 'tosherlaw06.TallyAnswers': WHATEVER THE INPUT: true; the input reads as it did. -/
def tallyAnswersSpec : ChangeSpec := { name := "tallyAnswers", fn := fun _ => fun
  | [d1, d2] => { results := [.lit (.bool true)], args := [d1, d2] }
  | _ => none }
def tallyAnswersRow : OpenClaim := { program := "ytldhdlohhiphjaa", sum := "4d04d4d9f9ea6a62601edfd3f81adfdd8106f46cb7d48128480975ee338907a9", func := "tosher/tosherlaw06.TallyAnswers", spec := "tallyAnswers", unfollowed := true, recurses := true, plainKeys := false, apart := false }
def TallyAnswersSaid : Prop := tallyAnswersRow.holds Try.pinned (OpenSpec.ofChange tallyAnswersSpec)

/-- ITS FALSE NEIGHBOUR: 'it returns false'. Refute it at one input. -/
def tallyAnswersWrong : ChangeSpec := { name := "tallyAnswers", fn := fun _ => fun
  | [d1, d2] => { results := [.lit (.bool false)], args := [d1, d2] }
  | _ => none }
def TallyAnswersWrongFalsely : Prop := tallyAnswersRow.holds Try.pinned (OpenSpec.ofChange tallyAnswersWrong)

/-- 'tosherlaw06.TallyWeighs': WHATEVER THE INPUT: true; the input reads as it did. -/
def tallyWeighsSpec : ChangeSpec := { name := "tallyWeighs", fn := fun _ => fun
  | [d1, d2, d3] => { results := [.lit (.bool true)], args := [d1, d2, d3] }
  | _ => none }
def tallyWeighsRow : OpenClaim := { program := "ytldhdlohhiphjaa", sum := "4d04d4d9f9ea6a62601edfd3f81adfdd8106f46cb7d48128480975ee338907a9", func := "tosher/tosherlaw06.TallyWeighs", spec := "tallyWeighs", unfollowed := true, recurses := true, plainKeys := false, apart := false }
def TallyWeighsSaid : Prop := tallyWeighsRow.holds Try.pinned (OpenSpec.ofChange tallyWeighsSpec)

/-- ITS FALSE NEIGHBOUR: 'it returns false'. Refute it at one input. -/
def tallyWeighsWrong : ChangeSpec := { name := "tallyWeighs", fn := fun _ => fun
  | [d1, d2, d3] => { results := [.lit (.bool false)], args := [d1, d2, d3] }
  | _ => none }
def TallyWeighsWrongFalsely : Prop := tallyWeighsRow.holds Try.pinned (OpenSpec.ofChange tallyWeighsWrong)

/-- 'tosherlaw06.TallyMakes': WHATEVER THE INPUT: true; the input reads as it did. -/
def tallyMakesSpec : ChangeSpec := { name := "tallyMakes", fn := fun _ => fun
  | [d1, d2, d3] => { results := [.lit (.bool true)], args := [d1, d2, d3] }
  | _ => none }
def tallyMakesRow : OpenClaim := { program := "ytldhdlohhiphjaa", sum := "4d04d4d9f9ea6a62601edfd3f81adfdd8106f46cb7d48128480975ee338907a9", func := "tosher/tosherlaw06.TallyMakes", spec := "tallyMakes", unfollowed := true, recurses := true, plainKeys := false, apart := false }
def TallyMakesSaid : Prop := tallyMakesRow.holds Try.pinned (OpenSpec.ofChange tallyMakesSpec)

/-- ITS FALSE NEIGHBOUR: 'it returns false'. Refute it at one input. -/
def tallyMakesWrong : ChangeSpec := { name := "tallyMakes", fn := fun _ => fun
  | [d1, d2, d3] => { results := [.lit (.bool false)], args := [d1, d2, d3] }
  | _ => none }
def TallyMakesWrongFalsely : Prop := tallyMakesRow.holds Try.pinned (OpenSpec.ofChange tallyMakesWrong)

/-- 'tosherlaw06.TallyMakers': WHATEVER THE INPUT: true; the input reads as it did. -/
def tallyMakersSpec : ChangeSpec := { name := "tallyMakers", fn := fun _ => fun
  | [d1, d2, d3] => { results := [.lit (.bool true)], args := [d1, d2, d3] }
  | _ => none }
def tallyMakersRow : OpenClaim := { program := "ytldhdlohhiphjaa", sum := "4d04d4d9f9ea6a62601edfd3f81adfdd8106f46cb7d48128480975ee338907a9", func := "tosher/tosherlaw06.TallyMakers", spec := "tallyMakers", unfollowed := true, recurses := true, plainKeys := false, apart := false }
def TallyMakersSaid : Prop := tallyMakersRow.holds Try.pinned (OpenSpec.ofChange tallyMakersSpec)

/-- ITS FALSE NEIGHBOUR: 'it returns false'. Refute it at one input. -/
def tallyMakersWrong : ChangeSpec := { name := "tallyMakers", fn := fun _ => fun
  | [d1, d2, d3] => { results := [.lit (.bool false)], args := [d1, d2, d3] }
  | _ => none }
def TallyMakersWrongFalsely : Prop := tallyMakersRow.holds Try.pinned (OpenSpec.ofChange tallyMakersWrong)

/-- 'tosherlaw06.TallyChecks': WHATEVER THE INPUT: true; the input reads as it did. -/
def tallyChecksSpec : ChangeSpec := { name := "tallyChecks", fn := fun _ => fun
  | [d1, d2] => { results := [.lit (.bool true)], args := [d1, d2] }
  | _ => none }
def tallyChecksRow : OpenClaim := { program := "ytldhdlohhiphjaa", sum := "4d04d4d9f9ea6a62601edfd3f81adfdd8106f46cb7d48128480975ee338907a9", func := "tosher/tosherlaw06.TallyChecks", spec := "tallyChecks", unfollowed := true, recurses := true, plainKeys := false, apart := false }
def TallyChecksSaid : Prop := tallyChecksRow.holds Try.pinned (OpenSpec.ofChange tallyChecksSpec)

/-- ITS FALSE NEIGHBOUR: 'it returns false'. Refute it at one input. -/
def tallyChecksWrong : ChangeSpec := { name := "tallyChecks", fn := fun _ => fun
  | [d1, d2] => { results := [.lit (.bool false)], args := [d1, d2] }
  | _ => none }
def TallyChecksWrongFalsely : Prop := tallyChecksRow.holds Try.pinned (OpenSpec.ofChange tallyChecksWrong)

/- THE SECOND FORM. 'bulk': how many values and letters a reading holds, each counted each time it is reached (what is shared counts as often as it is met; a slice's spare places count too). A statement '..UptoSaid' is the law's where the arguments, and the package variables that the reading takes, are together of bulk at most 1048576: NARROWER than '..Said'. Prove '..Said' where nothing that the law and all that it calls make is longer than what came in: it says more and counts as full. Else prove '..UptoSaid'. A law counts once. -/
mutual
def uptoBulk {H : Type} : DataW H → Nat
  | .lit (.string bytes) => bytes.length + 1
  | .lit _ => 1
  | .nil => 1
  | .ptr d => uptoBulk d + 1
  | .slice elems spare => uptoBulkAll elems + uptoBulkAll spare + 1
  | .agg parts => uptoBulkAll parts + 1
  | .iface _ d => uptoBulk d + 1
  | .map entries => uptoBulkEntries entries + 1
  | .held _ => 1
def uptoBulkAll {H : Type} : List (DataW H) → Nat
  | [] => 0
  | d :: r => uptoBulk d + uptoBulkAll r
def uptoBulkEntries {H : Type} : List (Lit × DataW H) → Nat
  | [] => 0
  | x :: r => uptoBulkEntry x + uptoBulkEntries r
def uptoBulkEntry {H : Type} : Lit × DataW H → Nat
  | (.string bytes, d) => bytes.length + uptoBulk d + 1
  | (_, d) => uptoBulk d + 1
 end
def uptoSmall : (H : Type) → List (DataW H) → Bool := fun _ ds => decide (uptoBulkAll ds ≤ 1048576)
def OpenSpec.upto (s : _root_.Go.ChangeSpec) : _root_.Go.OpenSpec := { _root_.Go.OpenSpec.ofChange s with cond := some uptoSmall }

/-- 'tosherlaw06.TallyTrue', WHERE WHAT IT READS IS OF BULK AT MOST 1048576: true; the input reads as it did. -/
def tallyTrueUptoRow : OpenClaim := { program := "ytldhdlohhiphjaa", sum := "4d04d4d9f9ea6a62601edfd3f81adfdd8106f46cb7d48128480975ee338907a9", func := "tosher/tosherlaw06.TallyTrue", spec := "tallyTrue", unfollowed := true, recurses := true, plainKeys := false, apart := false, narrowed := true }
def TallyTrueUptoSaid : Prop := tallyTrueUptoRow.holds Try.pinned (OpenSpec.upto tallyTrueSpec)

/-- 'tosherlaw06.TallyKept', WHERE WHAT IT READS IS OF BULK AT MOST 1048576: true; the input reads as it did. -/
def tallyKeptUptoRow : OpenClaim := { program := "ytldhdlohhiphjaa", sum := "4d04d4d9f9ea6a62601edfd3f81adfdd8106f46cb7d48128480975ee338907a9", func := "tosher/tosherlaw06.TallyKept", spec := "tallyKept", unfollowed := true, recurses := true, plainKeys := false, apart := false, narrowed := true }
def TallyKeptUptoSaid : Prop := tallyKeptUptoRow.holds Try.pinned (OpenSpec.upto tallyKeptSpec)

/-- 'tosherlaw06.TallyDecides', WHERE WHAT IT READS IS OF BULK AT MOST 1048576: true; the input reads as it did. -/
def tallyDecidesUptoRow : OpenClaim := { program := "ytldhdlohhiphjaa", sum := "4d04d4d9f9ea6a62601edfd3f81adfdd8106f46cb7d48128480975ee338907a9", func := "tosher/tosherlaw06.TallyDecides", spec := "tallyDecides", unfollowed := true, recurses := true, plainKeys := false, apart := false, narrowed := true }
def TallyDecidesUptoSaid : Prop := tallyDecidesUptoRow.holds Try.pinned (OpenSpec.upto tallyDecidesSpec)

/-- 'tosherlaw06.TallyStays', WHERE WHAT IT READS IS OF BULK AT MOST 1048576: true; the input reads as it did. -/
def tallyStaysUptoRow : OpenClaim := { program := "ytldhdlohhiphjaa", sum := "4d04d4d9f9ea6a62601edfd3f81adfdd8106f46cb7d48128480975ee338907a9", func := "tosher/tosherlaw06.TallyStays", spec := "tallyStays", unfollowed := true, recurses := true, plainKeys := false, apart := false, narrowed := true }
def TallyStaysUptoSaid : Prop := tallyStaysUptoRow.holds Try.pinned (OpenSpec.upto tallyStaysSpec)

/-- 'tosherlaw06.TallyMeets', WHERE WHAT IT READS IS OF BULK AT MOST 1048576: true; the input reads as it did. -/
def tallyMeetsUptoRow : OpenClaim := { program := "ytldhdlohhiphjaa", sum := "4d04d4d9f9ea6a62601edfd3f81adfdd8106f46cb7d48128480975ee338907a9", func := "tosher/tosherlaw06.TallyMeets", spec := "tallyMeets", unfollowed := true, recurses := true, plainKeys := false, apart := false, narrowed := true }
def TallyMeetsUptoSaid : Prop := tallyMeetsUptoRow.holds Try.pinned (OpenSpec.upto tallyMeetsSpec)

/-- 'tosherlaw06.TallyRenamed', WHERE WHAT IT READS IS OF BULK AT MOST 1048576: true; the input reads as it did. -/
def tallyRenamedUptoRow : OpenClaim := { program := "ytldhdlohhiphjaa", sum := "4d04d4d9f9ea6a62601edfd3f81adfdd8106f46cb7d48128480975ee338907a9", func := "tosher/tosherlaw06.TallyRenamed", spec := "tallyRenamed", unfollowed := true, recurses := true, plainKeys := false, apart := false, narrowed := true }
def TallyRenamedUptoSaid : Prop := tallyRenamedUptoRow.holds Try.pinned (OpenSpec.upto tallyRenamedSpec)

/-- 'tosherlaw06.TallyForbids', WHERE WHAT IT READS IS OF BULK AT MOST 1048576: true; the input reads as it did. -/
def tallyForbidsUptoRow : OpenClaim := { program := "ytldhdlohhiphjaa", sum := "4d04d4d9f9ea6a62601edfd3f81adfdd8106f46cb7d48128480975ee338907a9", func := "tosher/tosherlaw06.TallyForbids", spec := "tallyForbids", unfollowed := true, recurses := true, plainKeys := false, apart := false, narrowed := true }
def TallyForbidsUptoSaid : Prop := tallyForbidsUptoRow.holds Try.pinned (OpenSpec.upto tallyForbidsSpec)

/-- 'tosherlaw06.TallyOwn', WHERE WHAT IT READS IS OF BULK AT MOST 1048576: true; the input reads as it did. -/
def tallyOwnUptoRow : OpenClaim := { program := "ytldhdlohhiphjaa", sum := "4d04d4d9f9ea6a62601edfd3f81adfdd8106f46cb7d48128480975ee338907a9", func := "tosher/tosherlaw06.TallyOwn", spec := "tallyOwn", unfollowed := true, recurses := true, plainKeys := false, apart := false, narrowed := true }
def TallyOwnUptoSaid : Prop := tallyOwnUptoRow.holds Try.pinned (OpenSpec.upto tallyOwnSpec)

/-- 'tosherlaw06.TallyWays', WHERE WHAT IT READS IS OF BULK AT MOST 1048576: true; the input reads as it did. -/
def tallyWaysUptoRow : OpenClaim := { program := "ytldhdlohhiphjaa", sum := "4d04d4d9f9ea6a62601edfd3f81adfdd8106f46cb7d48128480975ee338907a9", func := "tosher/tosherlaw06.TallyWays", spec := "tallyWays", unfollowed := true, recurses := true, plainKeys := false, apart := false, narrowed := true }
def TallyWaysUptoSaid : Prop := tallyWaysUptoRow.holds Try.pinned (OpenSpec.upto tallyWaysSpec)

/-- 'tosherlaw06.TallyAnswers', WHERE WHAT IT READS IS OF BULK AT MOST 1048576: true; the input reads as it did. -/
def tallyAnswersUptoRow : OpenClaim := { program := "ytldhdlohhiphjaa", sum := "4d04d4d9f9ea6a62601edfd3f81adfdd8106f46cb7d48128480975ee338907a9", func := "tosher/tosherlaw06.TallyAnswers", spec := "tallyAnswers", unfollowed := true, recurses := true, plainKeys := false, apart := false, narrowed := true }
def TallyAnswersUptoSaid : Prop := tallyAnswersUptoRow.holds Try.pinned (OpenSpec.upto tallyAnswersSpec)

/-- 'tosherlaw06.TallyWeighs', WHERE WHAT IT READS IS OF BULK AT MOST 1048576: true; the input reads as it did. -/
def tallyWeighsUptoRow : OpenClaim := { program := "ytldhdlohhiphjaa", sum := "4d04d4d9f9ea6a62601edfd3f81adfdd8106f46cb7d48128480975ee338907a9", func := "tosher/tosherlaw06.TallyWeighs", spec := "tallyWeighs", unfollowed := true, recurses := true, plainKeys := false, apart := false, narrowed := true }
def TallyWeighsUptoSaid : Prop := tallyWeighsUptoRow.holds Try.pinned (OpenSpec.upto tallyWeighsSpec)

/-- 'tosherlaw06.TallyMakes', WHERE WHAT IT READS IS OF BULK AT MOST 1048576: true; the input reads as it did. -/
def tallyMakesUptoRow : OpenClaim := { program := "ytldhdlohhiphjaa", sum := "4d04d4d9f9ea6a62601edfd3f81adfdd8106f46cb7d48128480975ee338907a9", func := "tosher/tosherlaw06.TallyMakes", spec := "tallyMakes", unfollowed := true, recurses := true, plainKeys := false, apart := false, narrowed := true }
def TallyMakesUptoSaid : Prop := tallyMakesUptoRow.holds Try.pinned (OpenSpec.upto tallyMakesSpec)

/-- 'tosherlaw06.TallyMakers', WHERE WHAT IT READS IS OF BULK AT MOST 1048576: true; the input reads as it did. -/
def tallyMakersUptoRow : OpenClaim := { program := "ytldhdlohhiphjaa", sum := "4d04d4d9f9ea6a62601edfd3f81adfdd8106f46cb7d48128480975ee338907a9", func := "tosher/tosherlaw06.TallyMakers", spec := "tallyMakers", unfollowed := true, recurses := true, plainKeys := false, apart := false, narrowed := true }
def TallyMakersUptoSaid : Prop := tallyMakersUptoRow.holds Try.pinned (OpenSpec.upto tallyMakersSpec)

/-- 'tosherlaw06.TallyChecks', WHERE WHAT IT READS IS OF BULK AT MOST 1048576: true; the input reads as it did. -/
def tallyChecksUptoRow : OpenClaim := { program := "ytldhdlohhiphjaa", sum := "4d04d4d9f9ea6a62601edfd3f81adfdd8106f46cb7d48128480975ee338907a9", func := "tosher/tosherlaw06.TallyChecks", spec := "tallyChecks", unfollowed := true, recurses := true, plainKeys := false, apart := false, narrowed := true }
def TallyChecksUptoSaid : Prop := tallyChecksUptoRow.holds Try.pinned (OpenSpec.upto tallyChecksSpec)

end Rows
end Go.Proofs.Ytldhdlohhiphjaa
