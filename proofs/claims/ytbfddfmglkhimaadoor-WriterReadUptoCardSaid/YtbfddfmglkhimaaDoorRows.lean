/-
  NARROWER THAN 'FOR EVERY INPUT', by the rows' own cells (each row's printed sentence says how): ReaderNumbers: laid · ReaderOrder: laid · ReaderReads: laid · ReaderNil: laid · WriterRead: laid.
  DERIVED. THE GIVEN ROWS OF THIS SEAT. 5 by the template 'for every input the law returns true; each argument reads behind the call as it read before'; 0 by the template 'total and deterministic' (their statements: YtbfddfmglkhimaaDoorTotals.lean).
  GIVEN WITH THE SEED: the statements are not yours to turn. If you find one false, say at which input.
  Laid BY PROGRAM, IN A SANDBOX (cutbox-rows.mjs): the forced cells as the released guide's own fill.sh prints them over the translation eea6bc9169b89f4d… (all of the seat's roots in one cut). By AI agents, Wed Nov 11 2026. No macro, syntax, notation, axiom, sorry.
-/
import Derived.Test.YtbfddfmglkhimaaDoorChecked
import GoSem.Claim
import GoSem.ClaimJoined
import GoSem.ClaimMapViews
import Derived.JoinedTies
import Derived.KernelRfl
namespace Go.Proofs.YtbfddfmglkhimaaDoor
/- THE CELL 'sum', in the pinned program and in every row, IS THE sha256 OF THE DUMP (.gsa) THAT YtbfddfmglkhimaaDoorProg.lean LOADS. Nothing in Lean hashes anything: it is a label: what it is worth is what the hold of that sum in a sandbox is worth. -/
noncomputable def Tryd.pinned : Pinned := { name := "ytbfddfmglkhimaadoor", sum := "eea6bc9169b89f4d5468d21a449d5ba9ba7b85e1b4086ca10d5f666f840170fa", checked := Tryd.checked }
namespace Rows
def none {H : Type} : Left H := { results := [], args := [] }

/- WHAT THE LISTED PACKAGE-LEVEL VARIABLES READ AS WHEN THE CALL BEGINS. Each datum BY PROGRAM (the guide's laid-datum.mjs) off the statement by which the dump's own 'gosem.cut.vars' lays the variable. In a bare row this is a premise. The card (YtbfddfmglkhimaaDoorCards.lean) ties it to the program's text. -/
def laid_errors_errorType {H : Type} : DataW H := .iface "internal/reflectlite.rtype" (.agg [.ptr (.lit (.string [101, 114, 114, 111, 114]))])

/-- 'miradorlaw09.ReaderNumbers': WHATEVER THE INPUT: true; the input reads as it did. -/
def readerNumbersSpec : ChangeSpec := { name := "readerNumbers", fn := fun _ => fun
  | [d1, d2, d3] => { results := [.lit (.bool true)], args := [d1, d2, d3] }
  | _ => none }
def readerNumbersRow : OpenClaim := { program := "ytbfddfmglkhimaadoor", sum := "eea6bc9169b89f4d5468d21a449d5ba9ba7b85e1b4086ca10d5f666f840170fa", func := "mirador/miradorlaw09.ReaderNumbers", spec := "readerNumbers", inPlace := ["internal/reflectlite.TypeOf", "internal/reflectlite.ValueOf", "(internal/reflectlite.Value).Type", "(internal/reflectlite.Value).IsNil", "(internal/reflectlite.Value).Elem", "(internal/reflectlite.Value).Set"], unfollowed := true, recurses := true, named := ["errors.errorType"], apart := false, laid := [("errors.errorType", laid_errors_errorType)] }
def ReaderNumbersSaid : Prop := readerNumbersRow.holds Tryd.pinned (OpenSpec.ofChange readerNumbersSpec)

/-- ITS FALSE NEIGHBOUR: 'it returns false'. Refute it at one input. -/
def readerNumbersWrong : ChangeSpec := { name := "readerNumbers", fn := fun _ => fun
  | [d1, d2, d3] => { results := [.lit (.bool false)], args := [d1, d2, d3] }
  | _ => none }
def ReaderNumbersWrongFalsely : Prop := readerNumbersRow.holds Tryd.pinned (OpenSpec.ofChange readerNumbersWrong)

/-- 'miradorlaw09.ReaderOrder': WHATEVER THE INPUT: true; the input reads as it did. -/
def readerOrderSpec : ChangeSpec := { name := "readerOrder", fn := fun _ => fun
  | [d1, d2] => { results := [.lit (.bool true)], args := [d1, d2] }
  | _ => none }
def readerOrderRow : OpenClaim := { program := "ytbfddfmglkhimaadoor", sum := "eea6bc9169b89f4d5468d21a449d5ba9ba7b85e1b4086ca10d5f666f840170fa", func := "mirador/miradorlaw09.ReaderOrder", spec := "readerOrder", inPlace := ["internal/reflectlite.TypeOf", "internal/reflectlite.ValueOf", "(internal/reflectlite.Value).Type", "(internal/reflectlite.Value).IsNil", "(internal/reflectlite.Value).Elem", "(internal/reflectlite.Value).Set"], unfollowed := true, recurses := true, named := ["errors.errorType"], apart := false, laid := [("errors.errorType", laid_errors_errorType)] }
def ReaderOrderSaid : Prop := readerOrderRow.holds Tryd.pinned (OpenSpec.ofChange readerOrderSpec)

/-- ITS FALSE NEIGHBOUR: 'it returns false'. Refute it at one input. -/
def readerOrderWrong : ChangeSpec := { name := "readerOrder", fn := fun _ => fun
  | [d1, d2] => { results := [.lit (.bool false)], args := [d1, d2] }
  | _ => none }
def ReaderOrderWrongFalsely : Prop := readerOrderRow.holds Tryd.pinned (OpenSpec.ofChange readerOrderWrong)

/-- 'miradorlaw09.ReaderReads': WHATEVER THE INPUT: true; the input reads as it did. -/
def readerReadsSpec : ChangeSpec := { name := "readerReads", fn := fun _ => fun
  | [d] => { results := [.lit (.bool true)], args := [d] }
  | _ => none }
def readerReadsRow : OpenClaim := { program := "ytbfddfmglkhimaadoor", sum := "eea6bc9169b89f4d5468d21a449d5ba9ba7b85e1b4086ca10d5f666f840170fa", func := "mirador/miradorlaw09.ReaderReads", spec := "readerReads", inPlace := ["internal/reflectlite.TypeOf", "internal/reflectlite.ValueOf", "(internal/reflectlite.Value).Type", "(internal/reflectlite.Value).IsNil", "(internal/reflectlite.Value).Elem", "(internal/reflectlite.Value).Set"], unfollowed := true, recurses := true, named := ["errors.errorType"], apart := false, laid := [("errors.errorType", laid_errors_errorType)] }
def ReaderReadsSaid : Prop := readerReadsRow.holds Tryd.pinned (OpenSpec.ofChange readerReadsSpec)

/-- ITS FALSE NEIGHBOUR: 'it returns false'. Refute it at one input. -/
def readerReadsWrong : ChangeSpec := { name := "readerReads", fn := fun _ => fun
  | [d] => { results := [.lit (.bool false)], args := [d] }
  | _ => none }
def ReaderReadsWrongFalsely : Prop := readerReadsRow.holds Tryd.pinned (OpenSpec.ofChange readerReadsWrong)

/-- 'miradorlaw09.ReaderNil': WHATEVER THE INPUT: true; the input reads as it did. -/
def readerNilSpec : ChangeSpec := { name := "readerNil", fn := fun _ => fun
  | [d] => { results := [.lit (.bool true)], args := [d] }
  | _ => none }
def readerNilRow : OpenClaim := { program := "ytbfddfmglkhimaadoor", sum := "eea6bc9169b89f4d5468d21a449d5ba9ba7b85e1b4086ca10d5f666f840170fa", func := "mirador/miradorlaw09.ReaderNil", spec := "readerNil", inPlace := ["internal/reflectlite.TypeOf", "internal/reflectlite.ValueOf", "(internal/reflectlite.Value).Type", "(internal/reflectlite.Value).IsNil", "(internal/reflectlite.Value).Elem", "(internal/reflectlite.Value).Set"], unfollowed := true, recurses := true, named := ["errors.errorType"], apart := false, laid := [("errors.errorType", laid_errors_errorType)] }
def ReaderNilSaid : Prop := readerNilRow.holds Tryd.pinned (OpenSpec.ofChange readerNilSpec)

/-- ITS FALSE NEIGHBOUR: 'it returns false'. Refute it at one input. -/
def readerNilWrong : ChangeSpec := { name := "readerNil", fn := fun _ => fun
  | [d] => { results := [.lit (.bool false)], args := [d] }
  | _ => none }
def ReaderNilWrongFalsely : Prop := readerNilRow.holds Tryd.pinned (OpenSpec.ofChange readerNilWrong)

/-- 'miradorlaw10.WriterRead': WHATEVER THE INPUT: true; the input reads as it did. -/
def writerReadSpec : ChangeSpec := { name := "writerRead", fn := fun _ => fun
  | [d] => { results := [.lit (.bool true)], args := [d] }
  | _ => none }
def writerReadRow : OpenClaim := { program := "ytbfddfmglkhimaadoor", sum := "eea6bc9169b89f4d5468d21a449d5ba9ba7b85e1b4086ca10d5f666f840170fa", func := "mirador/miradorlaw10.WriterRead", spec := "writerRead", inPlace := ["internal/reflectlite.TypeOf", "internal/reflectlite.ValueOf", "(internal/reflectlite.Value).Type", "(internal/reflectlite.Value).IsNil", "(internal/reflectlite.Value).Elem", "(internal/reflectlite.Value).Set"], unfollowed := true, recurses := true, named := ["errors.errorType"], apart := false, laid := [("errors.errorType", laid_errors_errorType)] }
def WriterReadSaid : Prop := writerReadRow.holds Tryd.pinned (OpenSpec.ofChange writerReadSpec)

/-- ITS FALSE NEIGHBOUR: 'it returns false'. Refute it at one input. -/
def writerReadWrong : ChangeSpec := { name := "writerRead", fn := fun _ => fun
  | [d] => { results := [.lit (.bool false)], args := [d] }
  | _ => none }
def WriterReadWrongFalsely : Prop := writerReadRow.holds Tryd.pinned (OpenSpec.ofChange writerReadWrong)

/- THE SECOND FORM. 'bulk': how many values and letters a reading holds, each counted each time it is reached (what is shared counts as often as it is met; a slice's spare places count too). A statement '..UptoSaid' is the law's where the arguments, and the package variables that the reading takes, are together of bulk at most 1048576: NARROWER than '..Said'. Prove '..Said' where nothing that the law and all that it calls make is longer than what came in: it says more and counts as full. Else prove '..UptoSaid'. A law counts once. -/
mutual
def uptoBulk {H : Type} : DataW H → Nat
  | .lit (.string bytes) => bytes.length + 1
  | .lit _ => 1
  | .nil => 1
  | .ptr d => uptoBulk d + 1
  | .slice elems spare => uptoBulkAll elems + uptoBulkAll spare + 1
  | .agg parts => uptoBulkAll parts + 1
  | .iface _ d => uptoBulk d + 1
  | .map entries => uptoBulkEntries entries + 1
  | .held _ => 1
def uptoBulkAll {H : Type} : List (DataW H) → Nat
  | [] => 0
  | d :: r => uptoBulk d + uptoBulkAll r
def uptoBulkEntries {H : Type} : List (Lit × DataW H) → Nat
  | [] => 0
  | x :: r => uptoBulkEntry x + uptoBulkEntries r
def uptoBulkEntry {H : Type} : Lit × DataW H → Nat
  | (.string bytes, d) => bytes.length + uptoBulk d + 1
  | (_, d) => uptoBulk d + 1
 end
def uptoSmall : (H : Type) → List (DataW H) → Bool := fun _ ds => decide (uptoBulkAll ds ≤ 1048576)
def OpenSpec.upto (s : _root_.Go.ChangeSpec) : _root_.Go.OpenSpec := { _root_.Go.OpenSpec.ofChange s with cond := some uptoSmall }

/-- 'miradorlaw09.ReaderNumbers', WHERE WHAT IT READS IS OF BULK AT MOST 1048576: true; the input reads as it did. -/
def readerNumbersUptoRow : OpenClaim := { program := "ytbfddfmglkhimaadoor", sum := "eea6bc9169b89f4d5468d21a449d5ba9ba7b85e1b4086ca10d5f666f840170fa", func := "mirador/miradorlaw09.ReaderNumbers", spec := "readerNumbers", inPlace := ["internal/reflectlite.TypeOf", "internal/reflectlite.ValueOf", "(internal/reflectlite.Value).Type", "(internal/reflectlite.Value).IsNil", "(internal/reflectlite.Value).Elem", "(internal/reflectlite.Value).Set"], unfollowed := true, recurses := true, named := ["errors.errorType"], apart := false, laid := [("errors.errorType", laid_errors_errorType)], narrowed := true }
def ReaderNumbersUptoSaid : Prop := readerNumbersUptoRow.holds Tryd.pinned (OpenSpec.upto readerNumbersSpec)

/-- 'miradorlaw09.ReaderOrder', WHERE WHAT IT READS IS OF BULK AT MOST 1048576: true; the input reads as it did. -/
def readerOrderUptoRow : OpenClaim := { program := "ytbfddfmglkhimaadoor", sum := "eea6bc9169b89f4d5468d21a449d5ba9ba7b85e1b4086ca10d5f666f840170fa", func := "mirador/miradorlaw09.ReaderOrder", spec := "readerOrder", inPlace := ["internal/reflectlite.TypeOf", "internal/reflectlite.ValueOf", "(internal/reflectlite.Value).Type", "(internal/reflectlite.Value).IsNil", "(internal/reflectlite.Value).Elem", "(internal/reflectlite.Value).Set"], unfollowed := true, recurses := true, named := ["errors.errorType"], apart := false, laid := [("errors.errorType", laid_errors_errorType)], narrowed := true }
def ReaderOrderUptoSaid : Prop := readerOrderUptoRow.holds Tryd.pinned (OpenSpec.upto readerOrderSpec)

/-- 'miradorlaw09.ReaderReads', WHERE WHAT IT READS IS OF BULK AT MOST 1048576: true; the input reads as it did. -/
def readerReadsUptoRow : OpenClaim := { program := "ytbfddfmglkhimaadoor", sum := "eea6bc9169b89f4d5468d21a449d5ba9ba7b85e1b4086ca10d5f666f840170fa", func := "mirador/miradorlaw09.ReaderReads", spec := "readerReads", inPlace := ["internal/reflectlite.TypeOf", "internal/reflectlite.ValueOf", "(internal/reflectlite.Value).Type", "(internal/reflectlite.Value).IsNil", "(internal/reflectlite.Value).Elem", "(internal/reflectlite.Value).Set"], unfollowed := true, recurses := true, named := ["errors.errorType"], apart := false, laid := [("errors.errorType", laid_errors_errorType)], narrowed := true }
def ReaderReadsUptoSaid : Prop := readerReadsUptoRow.holds Tryd.pinned (OpenSpec.upto readerReadsSpec)

/-- 'miradorlaw09.ReaderNil', WHERE WHAT IT READS IS OF BULK AT MOST 1048576: true; the input reads as it did. -/
def readerNilUptoRow : OpenClaim := { program := "ytbfddfmglkhimaadoor", sum := "eea6bc9169b89f4d5468d21a449d5ba9ba7b85e1b4086ca10d5f666f840170fa", func := "mirador/miradorlaw09.ReaderNil", spec := "readerNil", inPlace := ["internal/reflectlite.TypeOf", "internal/reflectlite.ValueOf", "(internal/reflectlite.Value).Type", "(internal/reflectlite.Value).IsNil", "(internal/reflectlite.Value).Elem", "(internal/reflectlite.Value).Set"], unfollowed := true, recurses := true, named := ["errors.errorType"], apart := false, laid := [("errors.errorType", laid_errors_errorType)], narrowed := true }
def ReaderNilUptoSaid : Prop := readerNilUptoRow.holds Tryd.pinned (OpenSpec.upto readerNilSpec)

/-- 'miradorlaw10.WriterRead', WHERE WHAT IT READS IS OF BULK AT MOST 1048576: true; the input reads as it did. -/
def writerReadUptoRow : OpenClaim := { program := "ytbfddfmglkhimaadoor", sum := "eea6bc9169b89f4d5468d21a449d5ba9ba7b85e1b4086ca10d5f666f840170fa", func := "mirador/miradorlaw10.WriterRead", spec := "writerRead", inPlace := ["internal/reflectlite.TypeOf", "internal/reflectlite.ValueOf", "(internal/reflectlite.Value).Type", "(internal/reflectlite.Value).IsNil", "(internal/reflectlite.Value).Elem", "(internal/reflectlite.Value).Set"], unfollowed := true, recurses := true, named := ["errors.errorType"], apart := false, laid := [("errors.errorType", laid_errors_errorType)], narrowed := true }
def WriterReadUptoSaid : Prop := writerReadUptoRow.holds Tryd.pinned (OpenSpec.upto writerReadSpec)

end Rows
end Go.Proofs.YtbfddfmglkhimaaDoor
