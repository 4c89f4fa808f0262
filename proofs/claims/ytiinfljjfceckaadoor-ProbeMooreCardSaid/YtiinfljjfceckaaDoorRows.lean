/-
  NARROWER THAN 'FOR EVERY INPUT', by the rows' own cells (each row's printed sentence says how): ProbeForms: laid · ProbeSays: laid · ProbeWords: laid · ProbeAparts: laid · ProbeMoore: laid · ProbePasses: laid · ProbeTells: laid · ProbePlans: laid · ProbeHeights: loops, laid · ProbeGill: laid · ProbeOwn: laid · ProbeSuites: laid.
  DERIVED. THE GIVEN ROWS OF THIS SEAT. 12 by the template 'for every input the law returns true; each argument reads behind the call as it read before'; 0 by the template 'total and deterministic' (their statements: YtiinfljjfceckaaDoorTotals.lean).
  GIVEN WITH THE SEED: the statements are not yours to turn. If you find one false, say at which input.
  Laid BY PROGRAM, IN A SANDBOX (cutbox-rows.mjs): the forced cells as the released guide's own fill.sh prints them over the translation 624f3503624b92b0… (all of the seat's roots in one cut). By AI agents, Wed Nov 11 2026. No macro, syntax, notation, axiom, sorry.
-/
import Derived.Test.YtiinfljjfceckaaDoorChecked
import GoSem.Claim
import GoSem.ClaimJoined
import GoSem.ClaimMapViews
import Derived.JoinedTies
import Derived.KernelRfl
namespace Go.Proofs.YtiinfljjfceckaaDoor
/- THE CELL 'sum', in the pinned program and in every row, IS THE sha256 OF THE DUMP (.gsa) THAT YtiinfljjfceckaaDoorProg.lean LOADS. Nothing in Lean hashes anything: it is a label: what it is worth is what the hold of that sum in a sandbox is worth. -/
noncomputable def Tryd.pinned : Pinned := { name := "ytiinfljjfceckaadoor", sum := "624f3503624b92b07340b53c3550e803845736fbdc1a50cca048bc8c247df7ac", checked := Tryd.checked }
namespace Rows
def none {H : Type} : Left H := { results := [], args := [] }

/- WHAT THE LISTED PACKAGE-LEVEL VARIABLES READ AS WHEN THE CALL BEGINS. Each datum BY PROGRAM (the guide's laid-datum.mjs) off the statement by which the dump's own 'gosem.cut.vars' lays the variable. In a bare row this is a premise. The card (YtiinfljjfceckaaDoorCards.lean) ties it to the program's text. -/
def laid_math_bits_deBruijn32tab {H : Type} : DataW H := .agg [.lit (.int .u8 0), .lit (.int .u8 1), .lit (.int .u8 28), .lit (.int .u8 2), .lit (.int .u8 29), .lit (.int .u8 14), .lit (.int .u8 24), .lit (.int .u8 3), .lit (.int .u8 30), .lit (.int .u8 22), .lit (.int .u8 20), .lit (.int .u8 15), .lit (.int .u8 25), .lit (.int .u8 17), .lit (.int .u8 4), .lit (.int .u8 8), .lit (.int .u8 31), .lit (.int .u8 27), .lit (.int .u8 13), .lit (.int .u8 23), .lit (.int .u8 21), .lit (.int .u8 19), .lit (.int .u8 16), .lit (.int .u8 7), .lit (.int .u8 26), .lit (.int .u8 12), .lit (.int .u8 18), .lit (.int .u8 6), .lit (.int .u8 11), .lit (.int .u8 5), .lit (.int .u8 10), .lit (.int .u8 9)]
def laid_math_bits_deBruijn64tab {H : Type} : DataW H := .agg [.lit (.int .u8 0), .lit (.int .u8 1), .lit (.int .u8 56), .lit (.int .u8 2), .lit (.int .u8 57), .lit (.int .u8 49), .lit (.int .u8 28), .lit (.int .u8 3), .lit (.int .u8 61), .lit (.int .u8 58), .lit (.int .u8 42), .lit (.int .u8 50), .lit (.int .u8 38), .lit (.int .u8 29), .lit (.int .u8 17), .lit (.int .u8 4), .lit (.int .u8 62), .lit (.int .u8 47), .lit (.int .u8 59), .lit (.int .u8 36), .lit (.int .u8 45), .lit (.int .u8 43), .lit (.int .u8 51), .lit (.int .u8 22), .lit (.int .u8 53), .lit (.int .u8 39), .lit (.int .u8 33), .lit (.int .u8 30), .lit (.int .u8 24), .lit (.int .u8 18), .lit (.int .u8 12), .lit (.int .u8 5), .lit (.int .u8 63), .lit (.int .u8 55), .lit (.int .u8 48), .lit (.int .u8 27), .lit (.int .u8 60), .lit (.int .u8 41), .lit (.int .u8 37), .lit (.int .u8 16), .lit (.int .u8 46), .lit (.int .u8 35), .lit (.int .u8 44), .lit (.int .u8 21), .lit (.int .u8 52), .lit (.int .u8 32), .lit (.int .u8 23), .lit (.int .u8 11), .lit (.int .u8 54), .lit (.int .u8 26), .lit (.int .u8 40), .lit (.int .u8 15), .lit (.int .u8 34), .lit (.int .u8 20), .lit (.int .u8 31), .lit (.int .u8 10), .lit (.int .u8 25), .lit (.int .u8 14), .lit (.int .u8 19), .lit (.int .u8 9), .lit (.int .u8 13), .lit (.int .u8 8), .lit (.int .u8 7), .lit (.int .u8 6)]

/-- 'tosherlaw09.ProbeForms': WHATEVER THE INPUT: true; the input reads as it did. -/
def probeFormsSpec : ChangeSpec := { name := "probeForms", fn := fun _ => fun
  | [d1, d2] => { results := [.lit (.bool true)], args := [d1, d2] }
  | _ => none }
def probeFormsRow : OpenClaim := { program := "ytiinfljjfceckaadoor", sum := "624f3503624b92b07340b53c3550e803845736fbdc1a50cca048bc8c247df7ac", func := "tosher/tosherlaw09.ProbeForms", spec := "probeForms", unfollowed := true, recurses := true, named := ["math/bits.deBruijn32tab", "math/bits.deBruijn64tab"], plainKeys := false, apart := false, laid := [("math/bits.deBruijn32tab", laid_math_bits_deBruijn32tab), ("math/bits.deBruijn64tab", laid_math_bits_deBruijn64tab)] }
def ProbeFormsSaid : Prop := probeFormsRow.holds Tryd.pinned (OpenSpec.ofChange probeFormsSpec)

/-- ITS FALSE NEIGHBOUR: 'it returns false'. Refute it at one input. -/
def probeFormsWrong : ChangeSpec := { name := "probeForms", fn := fun _ => fun
  | [d1, d2] => { results := [.lit (.bool false)], args := [d1, d2] }
  | _ => none }
def ProbeFormsWrongFalsely : Prop := probeFormsRow.holds Tryd.pinned (OpenSpec.ofChange probeFormsWrong)

/-- 'tosherlaw09.ProbeSays': WHATEVER THE INPUT: true; the input reads as it did. -/
def probeSaysSpec : ChangeSpec := { name := "probeSays", fn := fun _ => fun
  | [d1, d2, d3] => { results := [.lit (.bool true)], args := [d1, d2, d3] }
  | _ => none }
def probeSaysRow : OpenClaim := { program := "ytiinfljjfceckaadoor", sum := "624f3503624b92b07340b53c3550e803845736fbdc1a50cca048bc8c247df7ac", func := "tosher/tosherlaw09.ProbeSays", spec := "probeSays", unfollowed := true, recurses := true, named := ["math/bits.deBruijn32tab", "math/bits.deBruijn64tab"], plainKeys := false, apart := false, laid := [("math/bits.deBruijn32tab", laid_math_bits_deBruijn32tab), ("math/bits.deBruijn64tab", laid_math_bits_deBruijn64tab)] }
def ProbeSaysSaid : Prop := probeSaysRow.holds Tryd.pinned (OpenSpec.ofChange probeSaysSpec)

/-- ITS FALSE NEIGHBOUR: 'it returns false'. Refute it at one input. -/
def probeSaysWrong : ChangeSpec := { name := "probeSays", fn := fun _ => fun
  | [d1, d2, d3] => { results := [.lit (.bool false)], args := [d1, d2, d3] }
  | _ => none }
def ProbeSaysWrongFalsely : Prop := probeSaysRow.holds Tryd.pinned (OpenSpec.ofChange probeSaysWrong)

/-- 'tosherlaw09.ProbeWords': WHATEVER THE INPUT: true; the input reads as it did. -/
def probeWordsSpec : ChangeSpec := { name := "probeWords", fn := fun _ => fun
  | [d1, d2, d3] => { results := [.lit (.bool true)], args := [d1, d2, d3] }
  | _ => none }
def probeWordsRow : OpenClaim := { program := "ytiinfljjfceckaadoor", sum := "624f3503624b92b07340b53c3550e803845736fbdc1a50cca048bc8c247df7ac", func := "tosher/tosherlaw09.ProbeWords", spec := "probeWords", unfollowed := true, recurses := true, named := ["math/bits.deBruijn32tab", "math/bits.deBruijn64tab"], plainKeys := false, apart := false, laid := [("math/bits.deBruijn32tab", laid_math_bits_deBruijn32tab), ("math/bits.deBruijn64tab", laid_math_bits_deBruijn64tab)] }
def ProbeWordsSaid : Prop := probeWordsRow.holds Tryd.pinned (OpenSpec.ofChange probeWordsSpec)

/-- ITS FALSE NEIGHBOUR: 'it returns false'. Refute it at one input. -/
def probeWordsWrong : ChangeSpec := { name := "probeWords", fn := fun _ => fun
  | [d1, d2, d3] => { results := [.lit (.bool false)], args := [d1, d2, d3] }
  | _ => none }
def ProbeWordsWrongFalsely : Prop := probeWordsRow.holds Tryd.pinned (OpenSpec.ofChange probeWordsWrong)

/-- 'tosherlaw09.ProbeAparts': WHATEVER THE INPUT: true; the input reads as it did. -/
def probeApartsSpec : ChangeSpec := { name := "probeAparts", fn := fun _ => fun
  | [d1, d2, d3] => { results := [.lit (.bool true)], args := [d1, d2, d3] }
  | _ => none }
def probeApartsRow : OpenClaim := { program := "ytiinfljjfceckaadoor", sum := "624f3503624b92b07340b53c3550e803845736fbdc1a50cca048bc8c247df7ac", func := "tosher/tosherlaw09.ProbeAparts", spec := "probeAparts", unfollowed := true, recurses := true, named := ["math/bits.deBruijn32tab", "math/bits.deBruijn64tab"], plainKeys := false, apart := false, laid := [("math/bits.deBruijn32tab", laid_math_bits_deBruijn32tab), ("math/bits.deBruijn64tab", laid_math_bits_deBruijn64tab)] }
def ProbeApartsSaid : Prop := probeApartsRow.holds Tryd.pinned (OpenSpec.ofChange probeApartsSpec)

/-- ITS FALSE NEIGHBOUR: 'it returns false'. Refute it at one input. -/
def probeApartsWrong : ChangeSpec := { name := "probeAparts", fn := fun _ => fun
  | [d1, d2, d3] => { results := [.lit (.bool false)], args := [d1, d2, d3] }
  | _ => none }
def ProbeApartsWrongFalsely : Prop := probeApartsRow.holds Tryd.pinned (OpenSpec.ofChange probeApartsWrong)

/-- 'tosherlaw09.ProbeMoore': WHATEVER THE INPUT: true; the input reads as it did. -/
def probeMooreSpec : ChangeSpec := { name := "probeMoore", fn := fun _ => fun
  | [d1, d2] => { results := [.lit (.bool true)], args := [d1, d2] }
  | _ => none }
def probeMooreRow : OpenClaim := { program := "ytiinfljjfceckaadoor", sum := "624f3503624b92b07340b53c3550e803845736fbdc1a50cca048bc8c247df7ac", func := "tosher/tosherlaw09.ProbeMoore", spec := "probeMoore", unfollowed := true, recurses := true, named := ["math/bits.deBruijn32tab", "math/bits.deBruijn64tab"], plainKeys := false, apart := false, laid := [("math/bits.deBruijn32tab", laid_math_bits_deBruijn32tab), ("math/bits.deBruijn64tab", laid_math_bits_deBruijn64tab)] }
def ProbeMooreSaid : Prop := probeMooreRow.holds Tryd.pinned (OpenSpec.ofChange probeMooreSpec)

/-- ITS FALSE NEIGHBOUR: 'it returns false'. Refute it at one input. -/
def probeMooreWrong : ChangeSpec := { name := "probeMoore", fn := fun _ => fun
  | [d1, d2] => { results := [.lit (.bool false)], args := [d1, d2] }
  | _ => none }
def ProbeMooreWrongFalsely : Prop := probeMooreRow.holds Tryd.pinned (OpenSpec.ofChange probeMooreWrong)

/-- 'tosherlaw09.ProbePasses': WHATEVER THE INPUT: true; the input reads as it did. -/
def probePassesSpec : ChangeSpec := { name := "probePasses", fn := fun _ => fun
  | [d1, d2, d3] => { results := [.lit (.bool true)], args := [d1, d2, d3] }
  | _ => none }
def probePassesRow : OpenClaim := { program := "ytiinfljjfceckaadoor", sum := "624f3503624b92b07340b53c3550e803845736fbdc1a50cca048bc8c247df7ac", func := "tosher/tosherlaw09.ProbePasses", spec := "probePasses", unfollowed := true, recurses := true, named := ["math/bits.deBruijn32tab", "math/bits.deBruijn64tab"], plainKeys := false, apart := false, laid := [("math/bits.deBruijn32tab", laid_math_bits_deBruijn32tab), ("math/bits.deBruijn64tab", laid_math_bits_deBruijn64tab)] }
def ProbePassesSaid : Prop := probePassesRow.holds Tryd.pinned (OpenSpec.ofChange probePassesSpec)

/-- ITS FALSE NEIGHBOUR: 'it returns false'. Refute it at one input. -/
def probePassesWrong : ChangeSpec := { name := "probePasses", fn := fun _ => fun
  | [d1, d2, d3] => { results := [.lit (.bool false)], args := [d1, d2, d3] }
  | _ => none }
def ProbePassesWrongFalsely : Prop := probePassesRow.holds Tryd.pinned (OpenSpec.ofChange probePassesWrong)

/-- 'tosherlaw09.ProbeTells': WHATEVER THE INPUT: true; the input reads as it did. -/
def probeTellsSpec : ChangeSpec := { name := "probeTells", fn := fun _ => fun
  | [d1, d2, d3] => { results := [.lit (.bool true)], args := [d1, d2, d3] }
  | _ => none }
def probeTellsRow : OpenClaim := { program := "ytiinfljjfceckaadoor", sum := "624f3503624b92b07340b53c3550e803845736fbdc1a50cca048bc8c247df7ac", func := "tosher/tosherlaw09.ProbeTells", spec := "probeTells", unfollowed := true, recurses := true, named := ["math/bits.deBruijn32tab", "math/bits.deBruijn64tab"], plainKeys := false, apart := false, laid := [("math/bits.deBruijn32tab", laid_math_bits_deBruijn32tab), ("math/bits.deBruijn64tab", laid_math_bits_deBruijn64tab)] }
def ProbeTellsSaid : Prop := probeTellsRow.holds Tryd.pinned (OpenSpec.ofChange probeTellsSpec)

/-- ITS FALSE NEIGHBOUR: 'it returns false'. Refute it at one input. -/
def probeTellsWrong : ChangeSpec := { name := "probeTells", fn := fun _ => fun
  | [d1, d2, d3] => { results := [.lit (.bool false)], args := [d1, d2, d3] }
  | _ => none }
def ProbeTellsWrongFalsely : Prop := probeTellsRow.holds Tryd.pinned (OpenSpec.ofChange probeTellsWrong)

/-- 'tosherlaw09.ProbePlans': WHATEVER THE INPUT: true; the input reads as it did. -/
def probePlansSpec : ChangeSpec := { name := "probePlans", fn := fun _ => fun
  | [d1, d2, d3] => { results := [.lit (.bool true)], args := [d1, d2, d3] }
  | _ => none }
def probePlansRow : OpenClaim := { program := "ytiinfljjfceckaadoor", sum := "624f3503624b92b07340b53c3550e803845736fbdc1a50cca048bc8c247df7ac", func := "tosher/tosherlaw09.ProbePlans", spec := "probePlans", unfollowed := true, recurses := true, named := ["math/bits.deBruijn32tab", "math/bits.deBruijn64tab"], plainKeys := false, apart := false, laid := [("math/bits.deBruijn32tab", laid_math_bits_deBruijn32tab), ("math/bits.deBruijn64tab", laid_math_bits_deBruijn64tab)] }
def ProbePlansSaid : Prop := probePlansRow.holds Tryd.pinned (OpenSpec.ofChange probePlansSpec)

/-- ITS FALSE NEIGHBOUR: 'it returns false'. Refute it at one input. -/
def probePlansWrong : ChangeSpec := { name := "probePlans", fn := fun _ => fun
  | [d1, d2, d3] => { results := [.lit (.bool false)], args := [d1, d2, d3] }
  | _ => none }
def ProbePlansWrongFalsely : Prop := probePlansRow.holds Tryd.pinned (OpenSpec.ofChange probePlansWrong)

/-- 'tosherlaw09.ProbeHeights': WHATEVER THE INPUT: true; the input reads as it did. -/
def probeHeightsSpec : ChangeSpec := { name := "probeHeights", fn := fun _ => fun
  | [d1, d2, d3] => { results := [.lit (.bool true)], args := [d1, d2, d3] }
  | _ => none }
def probeHeightsRow : OpenClaim := { program := "ytiinfljjfceckaadoor", sum := "624f3503624b92b07340b53c3550e803845736fbdc1a50cca048bc8c247df7ac", func := "tosher/tosherlaw09.ProbeHeights", spec := "probeHeights", unfollowed := true, recurses := true, named := ["math/bits.deBruijn32tab", "math/bits.deBruijn64tab"], loops := true, plainKeys := false, apart := false, laid := [("math/bits.deBruijn32tab", laid_math_bits_deBruijn32tab), ("math/bits.deBruijn64tab", laid_math_bits_deBruijn64tab)] }
def ProbeHeightsSaid : Prop := probeHeightsRow.holds Tryd.pinned (OpenSpec.ofChange probeHeightsSpec)

/-- ITS FALSE NEIGHBOUR: 'it returns false'. Refute it at one input. -/
def probeHeightsWrong : ChangeSpec := { name := "probeHeights", fn := fun _ => fun
  | [d1, d2, d3] => { results := [.lit (.bool false)], args := [d1, d2, d3] }
  | _ => none }
def ProbeHeightsWrongFalsely : Prop := probeHeightsRow.holds Tryd.pinned (OpenSpec.ofChange probeHeightsWrong)

/-- 'tosherlaw09.ProbeGill': WHATEVER THE INPUT: true; the input reads as it did. -/
def probeGillSpec : ChangeSpec := { name := "probeGill", fn := fun _ => fun
  | [d1, d2] => { results := [.lit (.bool true)], args := [d1, d2] }
  | _ => none }
def probeGillRow : OpenClaim := { program := "ytiinfljjfceckaadoor", sum := "624f3503624b92b07340b53c3550e803845736fbdc1a50cca048bc8c247df7ac", func := "tosher/tosherlaw09.ProbeGill", spec := "probeGill", unfollowed := true, recurses := true, named := ["math/bits.deBruijn32tab", "math/bits.deBruijn64tab"], plainKeys := false, apart := false, laid := [("math/bits.deBruijn32tab", laid_math_bits_deBruijn32tab), ("math/bits.deBruijn64tab", laid_math_bits_deBruijn64tab)] }
def ProbeGillSaid : Prop := probeGillRow.holds Tryd.pinned (OpenSpec.ofChange probeGillSpec)

/-- ITS FALSE NEIGHBOUR: 'it returns false'. Refute it at one input. -/
def probeGillWrong : ChangeSpec := { name := "probeGill", fn := fun _ => fun
  | [d1, d2] => { results := [.lit (.bool false)], args := [d1, d2] }
  | _ => none }
def ProbeGillWrongFalsely : Prop := probeGillRow.holds Tryd.pinned (OpenSpec.ofChange probeGillWrong)

/-- 'tosherlaw09.ProbeOwn': WHATEVER THE INPUT: true; the input reads as it did. -/
def probeOwnSpec : ChangeSpec := { name := "probeOwn", fn := fun _ => fun
  | [d1, d2] => { results := [.lit (.bool true)], args := [d1, d2] }
  | _ => none }
def probeOwnRow : OpenClaim := { program := "ytiinfljjfceckaadoor", sum := "624f3503624b92b07340b53c3550e803845736fbdc1a50cca048bc8c247df7ac", func := "tosher/tosherlaw09.ProbeOwn", spec := "probeOwn", unfollowed := true, recurses := true, named := ["math/bits.deBruijn32tab", "math/bits.deBruijn64tab"], plainKeys := false, apart := false, laid := [("math/bits.deBruijn32tab", laid_math_bits_deBruijn32tab), ("math/bits.deBruijn64tab", laid_math_bits_deBruijn64tab)] }
def ProbeOwnSaid : Prop := probeOwnRow.holds Tryd.pinned (OpenSpec.ofChange probeOwnSpec)

/-- ITS FALSE NEIGHBOUR: 'it returns false'. Refute it at one input. -/
def probeOwnWrong : ChangeSpec := { name := "probeOwn", fn := fun _ => fun
  | [d1, d2] => { results := [.lit (.bool false)], args := [d1, d2] }
  | _ => none }
def ProbeOwnWrongFalsely : Prop := probeOwnRow.holds Tryd.pinned (OpenSpec.ofChange probeOwnWrong)

/-- 'tosherlaw09.ProbeSuites': WHATEVER THE INPUT: true; the input reads as it did. -/
def probeSuitesSpec : ChangeSpec := { name := "probeSuites", fn := fun _ => fun
  | [d1, d2, d3] => { results := [.lit (.bool true)], args := [d1, d2, d3] }
  | _ => none }
def probeSuitesRow : OpenClaim := { program := "ytiinfljjfceckaadoor", sum := "624f3503624b92b07340b53c3550e803845736fbdc1a50cca048bc8c247df7ac", func := "tosher/tosherlaw09.ProbeSuites", spec := "probeSuites", unfollowed := true, recurses := true, named := ["math/bits.deBruijn32tab", "math/bits.deBruijn64tab"], plainKeys := false, apart := false, laid := [("math/bits.deBruijn32tab", laid_math_bits_deBruijn32tab), ("math/bits.deBruijn64tab", laid_math_bits_deBruijn64tab)] }
def ProbeSuitesSaid : Prop := probeSuitesRow.holds Tryd.pinned (OpenSpec.ofChange probeSuitesSpec)

/-- ITS FALSE NEIGHBOUR: 'it returns false'. Refute it at one input. -/
def probeSuitesWrong : ChangeSpec := { name := "probeSuites", fn := fun _ => fun
  | [d1, d2, d3] => { results := [.lit (.bool false)], args := [d1, d2, d3] }
  | _ => none }
def ProbeSuitesWrongFalsely : Prop := probeSuitesRow.holds Tryd.pinned (OpenSpec.ofChange probeSuitesWrong)

/- THE SECOND FORM. 'bulk': how many values and letters a reading holds, each counted each time it is reached (what is shared counts as often as it is met; a slice's spare places count too). A statement '..UptoSaid' is the law's where the arguments, and the package variables that the reading takes, are together of bulk at most 1048576: NARROWER than '..Said'. Prove '..Said' where nothing that the law and all that it calls make is longer than what came in: it says more and counts as full. Else prove '..UptoSaid'. A law counts once. -/
mutual
def uptoBulk {H : Type} : DataW H → Nat
  | .lit (.string bytes) => bytes.length + 1
  | .lit _ => 1
  | .nil => 1
  | .ptr d => uptoBulk d + 1
  | .slice elems spare => uptoBulkAll elems + uptoBulkAll spare + 1
  | .agg parts => uptoBulkAll parts + 1
  | .iface _ d => uptoBulk d + 1
  | .map entries => uptoBulkEntries entries + 1
  | .held _ => 1
def uptoBulkAll {H : Type} : List (DataW H) → Nat
  | [] => 0
  | d :: r => uptoBulk d + uptoBulkAll r
def uptoBulkEntries {H : Type} : List (Lit × DataW H) → Nat
  | [] => 0
  | x :: r => uptoBulkEntry x + uptoBulkEntries r
def uptoBulkEntry {H : Type} : Lit × DataW H → Nat
  | (.string bytes, d) => bytes.length + uptoBulk d + 1
  | (_, d) => uptoBulk d + 1
 end
def uptoSmall : (H : Type) → List (DataW H) → Bool := fun _ ds => decide (uptoBulkAll ds ≤ 1048576)
def OpenSpec.upto (s : _root_.Go.ChangeSpec) : _root_.Go.OpenSpec := { _root_.Go.OpenSpec.ofChange s with cond := some uptoSmall }

/-- 'tosherlaw09.ProbeForms', WHERE WHAT IT READS IS OF BULK AT MOST 1048576: true; the input reads as it did. -/
def probeFormsUptoRow : OpenClaim := { program := "ytiinfljjfceckaadoor", sum := "624f3503624b92b07340b53c3550e803845736fbdc1a50cca048bc8c247df7ac", func := "tosher/tosherlaw09.ProbeForms", spec := "probeForms", unfollowed := true, recurses := true, named := ["math/bits.deBruijn32tab", "math/bits.deBruijn64tab"], plainKeys := false, apart := false, laid := [("math/bits.deBruijn32tab", laid_math_bits_deBruijn32tab), ("math/bits.deBruijn64tab", laid_math_bits_deBruijn64tab)], narrowed := true }
def ProbeFormsUptoSaid : Prop := probeFormsUptoRow.holds Tryd.pinned (OpenSpec.upto probeFormsSpec)

/-- 'tosherlaw09.ProbeSays', WHERE WHAT IT READS IS OF BULK AT MOST 1048576: true; the input reads as it did. -/
def probeSaysUptoRow : OpenClaim := { program := "ytiinfljjfceckaadoor", sum := "624f3503624b92b07340b53c3550e803845736fbdc1a50cca048bc8c247df7ac", func := "tosher/tosherlaw09.ProbeSays", spec := "probeSays", unfollowed := true, recurses := true, named := ["math/bits.deBruijn32tab", "math/bits.deBruijn64tab"], plainKeys := false, apart := false, laid := [("math/bits.deBruijn32tab", laid_math_bits_deBruijn32tab), ("math/bits.deBruijn64tab", laid_math_bits_deBruijn64tab)], narrowed := true }
def ProbeSaysUptoSaid : Prop := probeSaysUptoRow.holds Tryd.pinned (OpenSpec.upto probeSaysSpec)

/-- 'tosherlaw09.ProbeWords', WHERE WHAT IT READS IS OF BULK AT MOST 1048576: true; the input reads as it did. -/
def probeWordsUptoRow : OpenClaim := { program := "ytiinfljjfceckaadoor", sum := "624f3503624b92b07340b53c3550e803845736fbdc1a50cca048bc8c247df7ac", func := "tosher/tosherlaw09.ProbeWords", spec := "probeWords", unfollowed := true, recurses := true, named := ["math/bits.deBruijn32tab", "math/bits.deBruijn64tab"], plainKeys := false, apart := false, laid := [("math/bits.deBruijn32tab", laid_math_bits_deBruijn32tab), ("math/bits.deBruijn64tab", laid_math_bits_deBruijn64tab)], narrowed := true }
def ProbeWordsUptoSaid : Prop := probeWordsUptoRow.holds Tryd.pinned (OpenSpec.upto probeWordsSpec)

/-- 'tosherlaw09.ProbeAparts', WHERE WHAT IT READS IS OF BULK AT MOST 1048576: true; the input reads as it did. -/
def probeApartsUptoRow : OpenClaim := { program := "ytiinfljjfceckaadoor", sum := "624f3503624b92b07340b53c3550e803845736fbdc1a50cca048bc8c247df7ac", func := "tosher/tosherlaw09.ProbeAparts", spec := "probeAparts", unfollowed := true, recurses := true, named := ["math/bits.deBruijn32tab", "math/bits.deBruijn64tab"], plainKeys := false, apart := false, laid := [("math/bits.deBruijn32tab", laid_math_bits_deBruijn32tab), ("math/bits.deBruijn64tab", laid_math_bits_deBruijn64tab)], narrowed := true }
def ProbeApartsUptoSaid : Prop := probeApartsUptoRow.holds Tryd.pinned (OpenSpec.upto probeApartsSpec)

/-- 'tosherlaw09.ProbeMoore', WHERE WHAT IT READS IS OF BULK AT MOST 1048576: true; the input reads as it did. -/
def probeMooreUptoRow : OpenClaim := { program := "ytiinfljjfceckaadoor", sum := "624f3503624b92b07340b53c3550e803845736fbdc1a50cca048bc8c247df7ac", func := "tosher/tosherlaw09.ProbeMoore", spec := "probeMoore", unfollowed := true, recurses := true, named := ["math/bits.deBruijn32tab", "math/bits.deBruijn64tab"], plainKeys := false, apart := false, laid := [("math/bits.deBruijn32tab", laid_math_bits_deBruijn32tab), ("math/bits.deBruijn64tab", laid_math_bits_deBruijn64tab)], narrowed := true }
def ProbeMooreUptoSaid : Prop := probeMooreUptoRow.holds Tryd.pinned (OpenSpec.upto probeMooreSpec)

/-- 'tosherlaw09.ProbePasses', WHERE WHAT IT READS IS OF BULK AT MOST 1048576: true; the input reads as it did. -/
def probePassesUptoRow : OpenClaim := { program := "ytiinfljjfceckaadoor", sum := "624f3503624b92b07340b53c3550e803845736fbdc1a50cca048bc8c247df7ac", func := "tosher/tosherlaw09.ProbePasses", spec := "probePasses", unfollowed := true, recurses := true, named := ["math/bits.deBruijn32tab", "math/bits.deBruijn64tab"], plainKeys := false, apart := false, laid := [("math/bits.deBruijn32tab", laid_math_bits_deBruijn32tab), ("math/bits.deBruijn64tab", laid_math_bits_deBruijn64tab)], narrowed := true }
def ProbePassesUptoSaid : Prop := probePassesUptoRow.holds Tryd.pinned (OpenSpec.upto probePassesSpec)

/-- 'tosherlaw09.ProbeTells', WHERE WHAT IT READS IS OF BULK AT MOST 1048576: true; the input reads as it did. -/
def probeTellsUptoRow : OpenClaim := { program := "ytiinfljjfceckaadoor", sum := "624f3503624b92b07340b53c3550e803845736fbdc1a50cca048bc8c247df7ac", func := "tosher/tosherlaw09.ProbeTells", spec := "probeTells", unfollowed := true, recurses := true, named := ["math/bits.deBruijn32tab", "math/bits.deBruijn64tab"], plainKeys := false, apart := false, laid := [("math/bits.deBruijn32tab", laid_math_bits_deBruijn32tab), ("math/bits.deBruijn64tab", laid_math_bits_deBruijn64tab)], narrowed := true }
def ProbeTellsUptoSaid : Prop := probeTellsUptoRow.holds Tryd.pinned (OpenSpec.upto probeTellsSpec)

/-- 'tosherlaw09.ProbePlans', WHERE WHAT IT READS IS OF BULK AT MOST 1048576: true; the input reads as it did. -/
def probePlansUptoRow : OpenClaim := { program := "ytiinfljjfceckaadoor", sum := "624f3503624b92b07340b53c3550e803845736fbdc1a50cca048bc8c247df7ac", func := "tosher/tosherlaw09.ProbePlans", spec := "probePlans", unfollowed := true, recurses := true, named := ["math/bits.deBruijn32tab", "math/bits.deBruijn64tab"], plainKeys := false, apart := false, laid := [("math/bits.deBruijn32tab", laid_math_bits_deBruijn32tab), ("math/bits.deBruijn64tab", laid_math_bits_deBruijn64tab)], narrowed := true }
def ProbePlansUptoSaid : Prop := probePlansUptoRow.holds Tryd.pinned (OpenSpec.upto probePlansSpec)

/-- 'tosherlaw09.ProbeHeights', WHERE WHAT IT READS IS OF BULK AT MOST 1048576: true; the input reads as it did. -/
def probeHeightsUptoRow : OpenClaim := { program := "ytiinfljjfceckaadoor", sum := "624f3503624b92b07340b53c3550e803845736fbdc1a50cca048bc8c247df7ac", func := "tosher/tosherlaw09.ProbeHeights", spec := "probeHeights", unfollowed := true, recurses := true, named := ["math/bits.deBruijn32tab", "math/bits.deBruijn64tab"], loops := true, plainKeys := false, apart := false, laid := [("math/bits.deBruijn32tab", laid_math_bits_deBruijn32tab), ("math/bits.deBruijn64tab", laid_math_bits_deBruijn64tab)], narrowed := true }
def ProbeHeightsUptoSaid : Prop := probeHeightsUptoRow.holds Tryd.pinned (OpenSpec.upto probeHeightsSpec)

/-- 'tosherlaw09.ProbeGill', WHERE WHAT IT READS IS OF BULK AT MOST 1048576: true; the input reads as it did. -/
def probeGillUptoRow : OpenClaim := { program := "ytiinfljjfceckaadoor", sum := "624f3503624b92b07340b53c3550e803845736fbdc1a50cca048bc8c247df7ac", func := "tosher/tosherlaw09.ProbeGill", spec := "probeGill", unfollowed := true, recurses := true, named := ["math/bits.deBruijn32tab", "math/bits.deBruijn64tab"], plainKeys := false, apart := false, laid := [("math/bits.deBruijn32tab", laid_math_bits_deBruijn32tab), ("math/bits.deBruijn64tab", laid_math_bits_deBruijn64tab)], narrowed := true }
def ProbeGillUptoSaid : Prop := probeGillUptoRow.holds Tryd.pinned (OpenSpec.upto probeGillSpec)

/-- 'tosherlaw09.ProbeOwn', WHERE WHAT IT READS IS OF BULK AT MOST 1048576: true; the input reads as it did. -/
def probeOwnUptoRow : OpenClaim := { program := "ytiinfljjfceckaadoor", sum := "624f3503624b92b07340b53c3550e803845736fbdc1a50cca048bc8c247df7ac", func := "tosher/tosherlaw09.ProbeOwn", spec := "probeOwn", unfollowed := true, recurses := true, named := ["math/bits.deBruijn32tab", "math/bits.deBruijn64tab"], plainKeys := false, apart := false, laid := [("math/bits.deBruijn32tab", laid_math_bits_deBruijn32tab), ("math/bits.deBruijn64tab", laid_math_bits_deBruijn64tab)], narrowed := true }
def ProbeOwnUptoSaid : Prop := probeOwnUptoRow.holds Tryd.pinned (OpenSpec.upto probeOwnSpec)

/-- 'tosherlaw09.ProbeSuites', WHERE WHAT IT READS IS OF BULK AT MOST 1048576: true; the input reads as it did. -/
def probeSuitesUptoRow : OpenClaim := { program := "ytiinfljjfceckaadoor", sum := "624f3503624b92b07340b53c3550e803845736fbdc1a50cca048bc8c247df7ac", func := "tosher/tosherlaw09.ProbeSuites", spec := "probeSuites", unfollowed := true, recurses := true, named := ["math/bits.deBruijn32tab", "math/bits.deBruijn64tab"], plainKeys := false, apart := false, laid := [("math/bits.deBruijn32tab", laid_math_bits_deBruijn32tab), ("math/bits.deBruijn64tab", laid_math_bits_deBruijn64tab)], narrowed := true }
def ProbeSuitesUptoSaid : Prop := probeSuitesUptoRow.holds Tryd.pinned (OpenSpec.upto probeSuitesSpec)

end Rows
end Go.Proofs.YtiinfljjfceckaaDoor
