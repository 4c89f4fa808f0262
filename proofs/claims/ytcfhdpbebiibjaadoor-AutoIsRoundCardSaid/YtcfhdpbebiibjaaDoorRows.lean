/-
  NARROWER THAN 'FOR EVERY INPUT', by the rows' own cells (each row's printed sentence says how): AutoRounds: laid · AutoEvers: laid · AutoOwn: laid · AutoAts: laid · AutoEveries: laid · AutoIsRound: laid · AutoThue: laid · AutoSquares: laid · AutoForms: laid · AutoSame: laid · AutoLaters: laid · AutoMaps: laid · AutoKernels: laid · AutoChecks: laid.
  DERIVED. THE GIVEN ROWS OF THIS SEAT. 14 by the template 'for every input the law returns true; each argument reads behind the call as it read before'; 0 by the template 'total and deterministic' (their statements: YtcfhdpbebiibjaaDoorTotals.lean).
  GIVEN WITH THE SEED: the statements are not yours to turn. If you find one false, say at which input.
  Laid BY PROGRAM, IN A SANDBOX (cutbox-rows.mjs): the forced cells as the released guide's own fill.sh prints them over the translation 251f8ceaf0bb2f2d… (all of the seat's roots in one cut). By AI agents, Wed Nov 11 2026. No macro, syntax, notation, axiom, sorry.
-/
import Derived.Test.YtcfhdpbebiibjaaDoorChecked
import GoSem.Claim
import GoSem.ClaimJoined
import GoSem.ClaimMapViews
import Derived.JoinedTies
import Derived.KernelRfl
namespace Go.Proofs.YtcfhdpbebiibjaaDoor
/- THE CELL 'sum', in the pinned program and in every row, IS THE sha256 OF THE DUMP (.gsa) THAT YtcfhdpbebiibjaaDoorProg.lean LOADS. Nothing in Lean hashes anything: it is a label: what it is worth is what the hold of that sum in a sandbox is worth. -/
noncomputable def Tryd.pinned : Pinned := { name := "ytcfhdpbebiibjaadoor", sum := "251f8ceaf0bb2f2d351746d992f6e8a57544dcb4df67f3846e325441b5f9315a", checked := Tryd.checked }
namespace Rows
def none {H : Type} : Left H := { results := [], args := [] }

/- WHAT THE LISTED PACKAGE-LEVEL VARIABLES READ AS WHEN THE CALL BEGINS. Each datum BY PROGRAM (the guide's laid-datum.mjs) off the statement by which the dump's own 'gosem.cut.vars' lays the variable. In a bare row this is a premise. The card (YtcfhdpbebiibjaaDoorCards.lean) ties it to the program's text. -/
def laid_tosher_auto_start {H : Type} : DataW H := .agg [.lit (.int .i64 0), .lit (.int .i64 0)]

/-- 'tosherlaw05.AutoRounds': WHATEVER THE INPUT: true; the input reads as it did. -/
def autoRoundsSpec : ChangeSpec := { name := "autoRounds", fn := fun _ => fun
  | [d] => { results := [.lit (.bool true)], args := [d] }
  | _ => none }
def autoRoundsRow : OpenClaim := { program := "ytcfhdpbebiibjaadoor", sum := "251f8ceaf0bb2f2d351746d992f6e8a57544dcb4df67f3846e325441b5f9315a", func := "tosher/tosherlaw05.AutoRounds", spec := "autoRounds", unfollowed := true, recurses := true, named := ["tosher/auto.start"], plainKeys := false, apart := false, laid := [("tosher/auto.start", laid_tosher_auto_start)] }
def AutoRoundsSaid : Prop := autoRoundsRow.holds Tryd.pinned (OpenSpec.ofChange autoRoundsSpec)

/-- ITS FALSE NEIGHBOUR: 'it returns false'. Refute it at one input. -/
def autoRoundsWrong : ChangeSpec := { name := "autoRounds", fn := fun _ => fun
  | [d] => { results := [.lit (.bool false)], args := [d] }
  | _ => none }
def AutoRoundsWrongFalsely : Prop := autoRoundsRow.holds Tryd.pinned (OpenSpec.ofChange autoRoundsWrong)

/-- 'tosherlaw05.AutoEvers': WHATEVER THE INPUT: true; the input reads as it did. -/
def autoEversSpec : ChangeSpec := { name := "autoEvers", fn := fun _ => fun
  | [d1, d2, d3] => { results := [.lit (.bool true)], args := [d1, d2, d3] }
  | _ => none }
def autoEversRow : OpenClaim := { program := "ytcfhdpbebiibjaadoor", sum := "251f8ceaf0bb2f2d351746d992f6e8a57544dcb4df67f3846e325441b5f9315a", func := "tosher/tosherlaw05.AutoEvers", spec := "autoEvers", unfollowed := true, recurses := true, named := ["tosher/auto.start"], plainKeys := false, apart := false, laid := [("tosher/auto.start", laid_tosher_auto_start)] }
def AutoEversSaid : Prop := autoEversRow.holds Tryd.pinned (OpenSpec.ofChange autoEversSpec)

/-- ITS FALSE NEIGHBOUR: 'it returns false'. Refute it at one input. -/
def autoEversWrong : ChangeSpec := { name := "autoEvers", fn := fun _ => fun
  | [d1, d2, d3] => { results := [.lit (.bool false)], args := [d1, d2, d3] }
  | _ => none }
def AutoEversWrongFalsely : Prop := autoEversRow.holds Tryd.pinned (OpenSpec.ofChange autoEversWrong)

/-- 'tosherlaw05.AutoOwn': WHATEVER THE INPUT: true; the input reads as it did. -/
def autoOwnSpec : ChangeSpec := { name := "autoOwn", fn := fun _ => fun
  | [d1, d2] => { results := [.lit (.bool true)], args := [d1, d2] }
  | _ => none }
def autoOwnRow : OpenClaim := { program := "ytcfhdpbebiibjaadoor", sum := "251f8ceaf0bb2f2d351746d992f6e8a57544dcb4df67f3846e325441b5f9315a", func := "tosher/tosherlaw05.AutoOwn", spec := "autoOwn", unfollowed := true, recurses := true, named := ["tosher/auto.start"], plainKeys := false, apart := false, laid := [("tosher/auto.start", laid_tosher_auto_start)] }
def AutoOwnSaid : Prop := autoOwnRow.holds Tryd.pinned (OpenSpec.ofChange autoOwnSpec)

/-- ITS FALSE NEIGHBOUR: 'it returns false'. Refute it at one input. -/
def autoOwnWrong : ChangeSpec := { name := "autoOwn", fn := fun _ => fun
  | [d1, d2] => { results := [.lit (.bool false)], args := [d1, d2] }
  | _ => none }
def AutoOwnWrongFalsely : Prop := autoOwnRow.holds Tryd.pinned (OpenSpec.ofChange autoOwnWrong)

/-- 'tosherlaw05.AutoAts': WHATEVER THE INPUT: true; the input reads as it did. -/
def autoAtsSpec : ChangeSpec := { name := "autoAts", fn := fun _ => fun
  | [d1, d2, d3] => { results := [.lit (.bool true)], args := [d1, d2, d3] }
  | _ => none }
def autoAtsRow : OpenClaim := { program := "ytcfhdpbebiibjaadoor", sum := "251f8ceaf0bb2f2d351746d992f6e8a57544dcb4df67f3846e325441b5f9315a", func := "tosher/tosherlaw05.AutoAts", spec := "autoAts", unfollowed := true, recurses := true, named := ["tosher/auto.start"], plainKeys := false, apart := false, laid := [("tosher/auto.start", laid_tosher_auto_start)] }
def AutoAtsSaid : Prop := autoAtsRow.holds Tryd.pinned (OpenSpec.ofChange autoAtsSpec)

/-- ITS FALSE NEIGHBOUR: 'it returns false'. Refute it at one input. -/
def autoAtsWrong : ChangeSpec := { name := "autoAts", fn := fun _ => fun
  | [d1, d2, d3] => { results := [.lit (.bool false)], args := [d1, d2, d3] }
  | _ => none }
def AutoAtsWrongFalsely : Prop := autoAtsRow.holds Tryd.pinned (OpenSpec.ofChange autoAtsWrong)

/-- 'tosherlaw05.AutoEveries': WHATEVER THE INPUT: true; the input reads as it did. -/
def autoEveriesSpec : ChangeSpec := { name := "autoEveries", fn := fun _ => fun
  | [d1, d2, d3] => { results := [.lit (.bool true)], args := [d1, d2, d3] }
  | _ => none }
def autoEveriesRow : OpenClaim := { program := "ytcfhdpbebiibjaadoor", sum := "251f8ceaf0bb2f2d351746d992f6e8a57544dcb4df67f3846e325441b5f9315a", func := "tosher/tosherlaw05.AutoEveries", spec := "autoEveries", unfollowed := true, recurses := true, named := ["tosher/auto.start"], plainKeys := false, apart := false, laid := [("tosher/auto.start", laid_tosher_auto_start)] }
def AutoEveriesSaid : Prop := autoEveriesRow.holds Tryd.pinned (OpenSpec.ofChange autoEveriesSpec)

/-- ITS FALSE NEIGHBOUR: 'it returns false'. Refute it at one input. -/
def autoEveriesWrong : ChangeSpec := { name := "autoEveries", fn := fun _ => fun
  | [d1, d2, d3] => { results := [.lit (.bool false)], args := [d1, d2, d3] }
  | _ => none }
def AutoEveriesWrongFalsely : Prop := autoEveriesRow.holds Tryd.pinned (OpenSpec.ofChange autoEveriesWrong)

/-- 'tosherlaw05.AutoIsRound': WHATEVER THE INPUT: true; the input reads as it did. -/
def autoIsRoundSpec : ChangeSpec := { name := "autoIsRound", fn := fun _ => fun
  | [d1, d2, d3] => { results := [.lit (.bool true)], args := [d1, d2, d3] }
  | _ => none }
def autoIsRoundRow : OpenClaim := { program := "ytcfhdpbebiibjaadoor", sum := "251f8ceaf0bb2f2d351746d992f6e8a57544dcb4df67f3846e325441b5f9315a", func := "tosher/tosherlaw05.AutoIsRound", spec := "autoIsRound", unfollowed := true, recurses := true, named := ["tosher/auto.start"], plainKeys := false, apart := false, laid := [("tosher/auto.start", laid_tosher_auto_start)] }
def AutoIsRoundSaid : Prop := autoIsRoundRow.holds Tryd.pinned (OpenSpec.ofChange autoIsRoundSpec)

/-- ITS FALSE NEIGHBOUR: 'it returns false'. Refute it at one input. -/
def autoIsRoundWrong : ChangeSpec := { name := "autoIsRound", fn := fun _ => fun
  | [d1, d2, d3] => { results := [.lit (.bool false)], args := [d1, d2, d3] }
  | _ => none }
def AutoIsRoundWrongFalsely : Prop := autoIsRoundRow.holds Tryd.pinned (OpenSpec.ofChange autoIsRoundWrong)

/-- 'tosherlaw05.AutoThue': WHATEVER THE INPUT: true; the input reads as it did. -/
def autoThueSpec : ChangeSpec := { name := "autoThue", fn := fun _ => fun
  | [d1, d2] => { results := [.lit (.bool true)], args := [d1, d2] }
  | _ => none }
def autoThueRow : OpenClaim := { program := "ytcfhdpbebiibjaadoor", sum := "251f8ceaf0bb2f2d351746d992f6e8a57544dcb4df67f3846e325441b5f9315a", func := "tosher/tosherlaw05.AutoThue", spec := "autoThue", unfollowed := true, recurses := true, named := ["tosher/auto.start"], plainKeys := false, apart := false, laid := [("tosher/auto.start", laid_tosher_auto_start)] }
def AutoThueSaid : Prop := autoThueRow.holds Tryd.pinned (OpenSpec.ofChange autoThueSpec)

/-- ITS FALSE NEIGHBOUR: 'it returns false'. Refute it at one input. -/
def autoThueWrong : ChangeSpec := { name := "autoThue", fn := fun _ => fun
  | [d1, d2] => { results := [.lit (.bool false)], args := [d1, d2] }
  | _ => none }
def AutoThueWrongFalsely : Prop := autoThueRow.holds Tryd.pinned (OpenSpec.ofChange autoThueWrong)

/-- 'tosherlaw05.AutoSquares': WHATEVER THE INPUT: true; the input reads as it did. -/
def autoSquaresSpec : ChangeSpec := { name := "autoSquares", fn := fun _ => fun
  | [d1, d2] => { results := [.lit (.bool true)], args := [d1, d2] }
  | _ => none }
def autoSquaresRow : OpenClaim := { program := "ytcfhdpbebiibjaadoor", sum := "251f8ceaf0bb2f2d351746d992f6e8a57544dcb4df67f3846e325441b5f9315a", func := "tosher/tosherlaw05.AutoSquares", spec := "autoSquares", unfollowed := true, recurses := true, named := ["tosher/auto.start"], plainKeys := false, apart := false, laid := [("tosher/auto.start", laid_tosher_auto_start)] }
def AutoSquaresSaid : Prop := autoSquaresRow.holds Tryd.pinned (OpenSpec.ofChange autoSquaresSpec)

/-- ITS FALSE NEIGHBOUR: 'it returns false'. Refute it at one input. -/
def autoSquaresWrong : ChangeSpec := { name := "autoSquares", fn := fun _ => fun
  | [d1, d2] => { results := [.lit (.bool false)], args := [d1, d2] }
  | _ => none }
def AutoSquaresWrongFalsely : Prop := autoSquaresRow.holds Tryd.pinned (OpenSpec.ofChange autoSquaresWrong)

/-- 'tosherlaw05.AutoForms': WHATEVER THE INPUT: true; the input reads as it did. -/
def autoFormsSpec : ChangeSpec := { name := "autoForms", fn := fun _ => fun
  | [d1, d2] => { results := [.lit (.bool true)], args := [d1, d2] }
  | _ => none }
def autoFormsRow : OpenClaim := { program := "ytcfhdpbebiibjaadoor", sum := "251f8ceaf0bb2f2d351746d992f6e8a57544dcb4df67f3846e325441b5f9315a", func := "tosher/tosherlaw05.AutoForms", spec := "autoForms", unfollowed := true, recurses := true, named := ["tosher/auto.start"], plainKeys := false, apart := false, laid := [("tosher/auto.start", laid_tosher_auto_start)] }
def AutoFormsSaid : Prop := autoFormsRow.holds Tryd.pinned (OpenSpec.ofChange autoFormsSpec)

/-- ITS FALSE NEIGHBOUR: 'it returns false'. Refute it at one input. -/
def autoFormsWrong : ChangeSpec := { name := "autoForms", fn := fun _ => fun
  | [d1, d2] => { results := [.lit (.bool false)], args := [d1, d2] }
  | _ => none }
def AutoFormsWrongFalsely : Prop := autoFormsRow.holds Tryd.pinned (OpenSpec.ofChange autoFormsWrong)

/-- 'tosherlaw05.AutoSame': WHATEVER THE INPUT: true; the input reads as it did. -/
def autoSameSpec : ChangeSpec := { name := "autoSame", fn := fun _ => fun
  | [d1, d2, d3] => { results := [.lit (.bool true)], args := [d1, d2, d3] }
  | _ => none }
def autoSameRow : OpenClaim := { program := "ytcfhdpbebiibjaadoor", sum := "251f8ceaf0bb2f2d351746d992f6e8a57544dcb4df67f3846e325441b5f9315a", func := "tosher/tosherlaw05.AutoSame", spec := "autoSame", unfollowed := true, recurses := true, named := ["tosher/auto.start"], plainKeys := false, apart := false, laid := [("tosher/auto.start", laid_tosher_auto_start)] }
def AutoSameSaid : Prop := autoSameRow.holds Tryd.pinned (OpenSpec.ofChange autoSameSpec)

/-- ITS FALSE NEIGHBOUR: 'it returns false'. Refute it at one input. -/
def autoSameWrong : ChangeSpec := { name := "autoSame", fn := fun _ => fun
  | [d1, d2, d3] => { results := [.lit (.bool false)], args := [d1, d2, d3] }
  | _ => none }
def AutoSameWrongFalsely : Prop := autoSameRow.holds Tryd.pinned (OpenSpec.ofChange autoSameWrong)

/-- 'tosherlaw05.AutoLaters': WHATEVER THE INPUT: true; the input reads as it did. -/
def autoLatersSpec : ChangeSpec := { name := "autoLaters", fn := fun _ => fun
  | [d1, d2, d3] => { results := [.lit (.bool true)], args := [d1, d2, d3] }
  | _ => none }
def autoLatersRow : OpenClaim := { program := "ytcfhdpbebiibjaadoor", sum := "251f8ceaf0bb2f2d351746d992f6e8a57544dcb4df67f3846e325441b5f9315a", func := "tosher/tosherlaw05.AutoLaters", spec := "autoLaters", unfollowed := true, recurses := true, named := ["tosher/auto.start"], plainKeys := false, apart := false, laid := [("tosher/auto.start", laid_tosher_auto_start)] }
def AutoLatersSaid : Prop := autoLatersRow.holds Tryd.pinned (OpenSpec.ofChange autoLatersSpec)

/-- ITS FALSE NEIGHBOUR: 'it returns false'. Refute it at one input. -/
def autoLatersWrong : ChangeSpec := { name := "autoLaters", fn := fun _ => fun
  | [d1, d2, d3] => { results := [.lit (.bool false)], args := [d1, d2, d3] }
  | _ => none }
def AutoLatersWrongFalsely : Prop := autoLatersRow.holds Tryd.pinned (OpenSpec.ofChange autoLatersWrong)

/-- 'tosherlaw05.AutoMaps': WHATEVER THE INPUT: true; the input reads as it did. -/
def autoMapsSpec : ChangeSpec := { name := "autoMaps", fn := fun _ => fun
  | [d1, d2, d3] => { results := [.lit (.bool true)], args := [d1, d2, d3] }
  | _ => none }
def autoMapsRow : OpenClaim := { program := "ytcfhdpbebiibjaadoor", sum := "251f8ceaf0bb2f2d351746d992f6e8a57544dcb4df67f3846e325441b5f9315a", func := "tosher/tosherlaw05.AutoMaps", spec := "autoMaps", unfollowed := true, recurses := true, named := ["tosher/auto.start"], plainKeys := false, apart := false, laid := [("tosher/auto.start", laid_tosher_auto_start)] }
def AutoMapsSaid : Prop := autoMapsRow.holds Tryd.pinned (OpenSpec.ofChange autoMapsSpec)

/-- ITS FALSE NEIGHBOUR: 'it returns false'. Refute it at one input. -/
def autoMapsWrong : ChangeSpec := { name := "autoMaps", fn := fun _ => fun
  | [d1, d2, d3] => { results := [.lit (.bool false)], args := [d1, d2, d3] }
  | _ => none }
def AutoMapsWrongFalsely : Prop := autoMapsRow.holds Tryd.pinned (OpenSpec.ofChange autoMapsWrong)

/-- 'tosherlaw05.AutoKernels': WHATEVER THE INPUT: true; the input reads as it did. -/
def autoKernelsSpec : ChangeSpec := { name := "autoKernels", fn := fun _ => fun
  | [d1, d2] => { results := [.lit (.bool true)], args := [d1, d2] }
  | _ => none }
def autoKernelsRow : OpenClaim := { program := "ytcfhdpbebiibjaadoor", sum := "251f8ceaf0bb2f2d351746d992f6e8a57544dcb4df67f3846e325441b5f9315a", func := "tosher/tosherlaw05.AutoKernels", spec := "autoKernels", unfollowed := true, recurses := true, named := ["tosher/auto.start"], plainKeys := false, apart := false, laid := [("tosher/auto.start", laid_tosher_auto_start)] }
def AutoKernelsSaid : Prop := autoKernelsRow.holds Tryd.pinned (OpenSpec.ofChange autoKernelsSpec)

/-- ITS FALSE NEIGHBOUR: 'it returns false'. Refute it at one input. -/
def autoKernelsWrong : ChangeSpec := { name := "autoKernels", fn := fun _ => fun
  | [d1, d2] => { results := [.lit (.bool false)], args := [d1, d2] }
  | _ => none }
def AutoKernelsWrongFalsely : Prop := autoKernelsRow.holds Tryd.pinned (OpenSpec.ofChange autoKernelsWrong)

/-- 'tosherlaw05.AutoChecks': WHATEVER THE INPUT: true; the input reads as it did. -/
def autoChecksSpec : ChangeSpec := { name := "autoChecks", fn := fun _ => fun
  | [d] => { results := [.lit (.bool true)], args := [d] }
  | _ => none }
def autoChecksRow : OpenClaim := { program := "ytcfhdpbebiibjaadoor", sum := "251f8ceaf0bb2f2d351746d992f6e8a57544dcb4df67f3846e325441b5f9315a", func := "tosher/tosherlaw05.AutoChecks", spec := "autoChecks", unfollowed := true, recurses := true, named := ["tosher/auto.start"], plainKeys := false, apart := false, laid := [("tosher/auto.start", laid_tosher_auto_start)] }
def AutoChecksSaid : Prop := autoChecksRow.holds Tryd.pinned (OpenSpec.ofChange autoChecksSpec)

/-- ITS FALSE NEIGHBOUR: 'it returns false'. Refute it at one input. -/
def autoChecksWrong : ChangeSpec := { name := "autoChecks", fn := fun _ => fun
  | [d] => { results := [.lit (.bool false)], args := [d] }
  | _ => none }
def AutoChecksWrongFalsely : Prop := autoChecksRow.holds Tryd.pinned (OpenSpec.ofChange autoChecksWrong)

/- THE SECOND FORM. 'bulk': how many values and letters a reading holds, each counted each time it is reached (what is shared counts as often as it is met; a slice's spare places count too). A statement '..UptoSaid' is the law's where the arguments, and the package variables that the reading takes, are together of bulk at most 1048576: NARROWER than '..Said'. Prove '..Said' where nothing that the law and all that it calls make is longer than what came in: it says more and counts as full. Else prove '..UptoSaid'. A law counts once. -/
mutual
def uptoBulk {H : Type} : DataW H → Nat
  | .lit (.string bytes) => bytes.length + 1
  | .lit _ => 1
  | .nil => 1
  | .ptr d => uptoBulk d + 1
  | .slice elems spare => uptoBulkAll elems + uptoBulkAll spare + 1
  | .agg parts => uptoBulkAll parts + 1
  | .iface _ d => uptoBulk d + 1
  | .map entries => uptoBulkEntries entries + 1
  | .held _ => 1
def uptoBulkAll {H : Type} : List (DataW H) → Nat
  | [] => 0
  | d :: r => uptoBulk d + uptoBulkAll r
def uptoBulkEntries {H : Type} : List (Lit × DataW H) → Nat
  | [] => 0
  | x :: r => uptoBulkEntry x + uptoBulkEntries r
def uptoBulkEntry {H : Type} : Lit × DataW H → Nat
  | (.string bytes, d) => bytes.length + uptoBulk d + 1
  | (_, d) => uptoBulk d + 1
 end
def uptoSmall : (H : Type) → List (DataW H) → Bool := fun _ ds => decide (uptoBulkAll ds ≤ 1048576)
def OpenSpec.upto (s : _root_.Go.ChangeSpec) : _root_.Go.OpenSpec := { _root_.Go.OpenSpec.ofChange s with cond := some uptoSmall }

/-- 'tosherlaw05.AutoRounds', WHERE WHAT IT READS IS OF BULK AT MOST 1048576: true; the input reads as it did. -/
def autoRoundsUptoRow : OpenClaim := { program := "ytcfhdpbebiibjaadoor", sum := "251f8ceaf0bb2f2d351746d992f6e8a57544dcb4df67f3846e325441b5f9315a", func := "tosher/tosherlaw05.AutoRounds", spec := "autoRounds", unfollowed := true, recurses := true, named := ["tosher/auto.start"], plainKeys := false, apart := false, laid := [("tosher/auto.start", laid_tosher_auto_start)], narrowed := true }
def AutoRoundsUptoSaid : Prop := autoRoundsUptoRow.holds Tryd.pinned (OpenSpec.upto autoRoundsSpec)

/-- 'tosherlaw05.AutoEvers', WHERE WHAT IT READS IS OF BULK AT MOST 1048576: true; the input reads as it did. -/
def autoEversUptoRow : OpenClaim := { program := "ytcfhdpbebiibjaadoor", sum := "251f8ceaf0bb2f2d351746d992f6e8a57544dcb4df67f3846e325441b5f9315a", func := "tosher/tosherlaw05.AutoEvers", spec := "autoEvers", unfollowed := true, recurses := true, named := ["tosher/auto.start"], plainKeys := false, apart := false, laid := [("tosher/auto.start", laid_tosher_auto_start)], narrowed := true }
def AutoEversUptoSaid : Prop := autoEversUptoRow.holds Tryd.pinned (OpenSpec.upto autoEversSpec)

/-- 'tosherlaw05.AutoOwn', WHERE WHAT IT READS IS OF BULK AT MOST 1048576: true; the input reads as it did. -/
def autoOwnUptoRow : OpenClaim := { program := "ytcfhdpbebiibjaadoor", sum := "251f8ceaf0bb2f2d351746d992f6e8a57544dcb4df67f3846e325441b5f9315a", func := "tosher/tosherlaw05.AutoOwn", spec := "autoOwn", unfollowed := true, recurses := true, named := ["tosher/auto.start"], plainKeys := false, apart := false, laid := [("tosher/auto.start", laid_tosher_auto_start)], narrowed := true }
def AutoOwnUptoSaid : Prop := autoOwnUptoRow.holds Tryd.pinned (OpenSpec.upto autoOwnSpec)

/-- 'tosherlaw05.AutoAts', WHERE WHAT IT READS IS OF BULK AT MOST 1048576: true; the input reads as it did. -/
def autoAtsUptoRow : OpenClaim := { program := "ytcfhdpbebiibjaadoor", sum := "251f8ceaf0bb2f2d351746d992f6e8a57544dcb4df67f3846e325441b5f9315a", func := "tosher/tosherlaw05.AutoAts", spec := "autoAts", unfollowed := true, recurses := true, named := ["tosher/auto.start"], plainKeys := false, apart := false, laid := [("tosher/auto.start", laid_tosher_auto_start)], narrowed := true }
def AutoAtsUptoSaid : Prop := autoAtsUptoRow.holds Tryd.pinned (OpenSpec.upto autoAtsSpec)

/-- 'tosherlaw05.AutoEveries', WHERE WHAT IT READS IS OF BULK AT MOST 1048576: true; the input reads as it did. -/
def autoEveriesUptoRow : OpenClaim := { program := "ytcfhdpbebiibjaadoor", sum := "251f8ceaf0bb2f2d351746d992f6e8a57544dcb4df67f3846e325441b5f9315a", func := "tosher/tosherlaw05.AutoEveries", spec := "autoEveries", unfollowed := true, recurses := true, named := ["tosher/auto.start"], plainKeys := false, apart := false, laid := [("tosher/auto.start", laid_tosher_auto_start)], narrowed := true }
def AutoEveriesUptoSaid : Prop := autoEveriesUptoRow.holds Tryd.pinned (OpenSpec.upto autoEveriesSpec)

/-- 'tosherlaw05.AutoIsRound', WHERE WHAT IT READS IS OF BULK AT MOST 1048576: true; the input reads as it did. -/
def autoIsRoundUptoRow : OpenClaim := { program := "ytcfhdpbebiibjaadoor", sum := "251f8ceaf0bb2f2d351746d992f6e8a57544dcb4df67f3846e325441b5f9315a", func := "tosher/tosherlaw05.AutoIsRound", spec := "autoIsRound", unfollowed := true, recurses := true, named := ["tosher/auto.start"], plainKeys := false, apart := false, laid := [("tosher/auto.start", laid_tosher_auto_start)], narrowed := true }
def AutoIsRoundUptoSaid : Prop := autoIsRoundUptoRow.holds Tryd.pinned (OpenSpec.upto autoIsRoundSpec)

/-- 'tosherlaw05.AutoThue', WHERE WHAT IT READS IS OF BULK AT MOST 1048576: true; the input reads as it did. -/
def autoThueUptoRow : OpenClaim := { program := "ytcfhdpbebiibjaadoor", sum := "251f8ceaf0bb2f2d351746d992f6e8a57544dcb4df67f3846e325441b5f9315a", func := "tosher/tosherlaw05.AutoThue", spec := "autoThue", unfollowed := true, recurses := true, named := ["tosher/auto.start"], plainKeys := false, apart := false, laid := [("tosher/auto.start", laid_tosher_auto_start)], narrowed := true }
def AutoThueUptoSaid : Prop := autoThueUptoRow.holds Tryd.pinned (OpenSpec.upto autoThueSpec)

/-- 'tosherlaw05.AutoSquares', WHERE WHAT IT READS IS OF BULK AT MOST 1048576: true; the input reads as it did. -/
def autoSquaresUptoRow : OpenClaim := { program := "ytcfhdpbebiibjaadoor", sum := "251f8ceaf0bb2f2d351746d992f6e8a57544dcb4df67f3846e325441b5f9315a", func := "tosher/tosherlaw05.AutoSquares", spec := "autoSquares", unfollowed := true, recurses := true, named := ["tosher/auto.start"], plainKeys := false, apart := false, laid := [("tosher/auto.start", laid_tosher_auto_start)], narrowed := true }
def AutoSquaresUptoSaid : Prop := autoSquaresUptoRow.holds Tryd.pinned (OpenSpec.upto autoSquaresSpec)

/-- 'tosherlaw05.AutoForms', WHERE WHAT IT READS IS OF BULK AT MOST 1048576: true; the input reads as it did. -/
def autoFormsUptoRow : OpenClaim := { program := "ytcfhdpbebiibjaadoor", sum := "251f8ceaf0bb2f2d351746d992f6e8a57544dcb4df67f3846e325441b5f9315a", func := "tosher/tosherlaw05.AutoForms", spec := "autoForms", unfollowed := true, recurses := true, named := ["tosher/auto.start"], plainKeys := false, apart := false, laid := [("tosher/auto.start", laid_tosher_auto_start)], narrowed := true }
def AutoFormsUptoSaid : Prop := autoFormsUptoRow.holds Tryd.pinned (OpenSpec.upto autoFormsSpec)

/-- 'tosherlaw05.AutoSame', WHERE WHAT IT READS IS OF BULK AT MOST 1048576: true; the input reads as it did. -/
def autoSameUptoRow : OpenClaim := { program := "ytcfhdpbebiibjaadoor", sum := "251f8ceaf0bb2f2d351746d992f6e8a57544dcb4df67f3846e325441b5f9315a", func := "tosher/tosherlaw05.AutoSame", spec := "autoSame", unfollowed := true, recurses := true, named := ["tosher/auto.start"], plainKeys := false, apart := false, laid := [("tosher/auto.start", laid_tosher_auto_start)], narrowed := true }
def AutoSameUptoSaid : Prop := autoSameUptoRow.holds Tryd.pinned (OpenSpec.upto autoSameSpec)

/-- 'tosherlaw05.AutoLaters', WHERE WHAT IT READS IS OF BULK AT MOST 1048576: true; the input reads as it did. -/
def autoLatersUptoRow : OpenClaim := { program := "ytcfhdpbebiibjaadoor", sum := "251f8ceaf0bb2f2d351746d992f6e8a57544dcb4df67f3846e325441b5f9315a", func := "tosher/tosherlaw05.AutoLaters", spec := "autoLaters", unfollowed := true, recurses := true, named := ["tosher/auto.start"], plainKeys := false, apart := false, laid := [("tosher/auto.start", laid_tosher_auto_start)], narrowed := true }
def AutoLatersUptoSaid : Prop := autoLatersUptoRow.holds Tryd.pinned (OpenSpec.upto autoLatersSpec)

/-- 'tosherlaw05.AutoMaps', WHERE WHAT IT READS IS OF BULK AT MOST 1048576: true; the input reads as it did. -/
def autoMapsUptoRow : OpenClaim := { program := "ytcfhdpbebiibjaadoor", sum := "251f8ceaf0bb2f2d351746d992f6e8a57544dcb4df67f3846e325441b5f9315a", func := "tosher/tosherlaw05.AutoMaps", spec := "autoMaps", unfollowed := true, recurses := true, named := ["tosher/auto.start"], plainKeys := false, apart := false, laid := [("tosher/auto.start", laid_tosher_auto_start)], narrowed := true }
def AutoMapsUptoSaid : Prop := autoMapsUptoRow.holds Tryd.pinned (OpenSpec.upto autoMapsSpec)

/-- 'tosherlaw05.AutoKernels', WHERE WHAT IT READS IS OF BULK AT MOST 1048576: true; the input reads as it did. -/
def autoKernelsUptoRow : OpenClaim := { program := "ytcfhdpbebiibjaadoor", sum := "251f8ceaf0bb2f2d351746d992f6e8a57544dcb4df67f3846e325441b5f9315a", func := "tosher/tosherlaw05.AutoKernels", spec := "autoKernels", unfollowed := true, recurses := true, named := ["tosher/auto.start"], plainKeys := false, apart := false, laid := [("tosher/auto.start", laid_tosher_auto_start)], narrowed := true }
def AutoKernelsUptoSaid : Prop := autoKernelsUptoRow.holds Tryd.pinned (OpenSpec.upto autoKernelsSpec)

/-- 'tosherlaw05.AutoChecks', WHERE WHAT IT READS IS OF BULK AT MOST 1048576: true; the input reads as it did. -/
def autoChecksUptoRow : OpenClaim := { program := "ytcfhdpbebiibjaadoor", sum := "251f8ceaf0bb2f2d351746d992f6e8a57544dcb4df67f3846e325441b5f9315a", func := "tosher/tosherlaw05.AutoChecks", spec := "autoChecks", unfollowed := true, recurses := true, named := ["tosher/auto.start"], plainKeys := false, apart := false, laid := [("tosher/auto.start", laid_tosher_auto_start)], narrowed := true }
def AutoChecksUptoSaid : Prop := autoChecksUptoRow.holds Tryd.pinned (OpenSpec.upto autoChecksSpec)

end Rows
end Go.Proofs.YtcfhdpbebiibjaaDoor
