/-
  No cell of these rows narrows 'for every input' (looked for: loops, veiled, ifaces, maps, wideKeys, modest, calm, conditions, laid).
  DERIVED. THE GIVEN ROWS OF THIS SEAT. 5 by the template 'for every input the law returns true; each argument reads behind the call as it read before'; 0 by the template 'total and deterministic' (their statements: YtepemfgiigceoaaTotals.lean).
  GIVEN WITH THE SEED: the statements are not yours to turn. If you find one false, say at which input.
  Laid BY PROGRAM, IN A SANDBOX (cutbox-rows.mjs): the forced cells as the released guide's own fill.sh prints them over the translation f230034e3fc1c0ce… (all of the seat's roots in one cut). By AI agents, Wed Nov 11 2026. No macro, syntax, notation, axiom, sorry.
-/
import Derived.Test.YtepemfgiigceoaaChecked
import GoSem.Claim
import GoSem.ClaimJoined
import GoSem.ClaimMapViews
import Derived.JoinedTies
import Derived.KernelRfl
namespace Go.Proofs.Ytepemfgiigceoaa
/- THE CELL 'sum', in the pinned program and in every row, IS THE sha256 OF THE DUMP (.gsa) THAT YtepemfgiigceoaaProg.lean LOADS. Nothing in Lean hashes anything: it is a label: what it is worth is what the hold of that sum in a sandbox is worth. -/
noncomputable def Try.pinned : Pinned := { name := "ytepemfgiigceoaa", sum := "f230034e3fc1c0cea1a849941adea838e8e020be8ec5d5fa356247351d10ef84", checked := Try.checked }
namespace Rows
def none {H : Type} : Left H := { results := [], args := [] }

/-- 'miradorlaw26.ChainBack': WHATEVER THE INPUT: true; the input reads as it did. -/
def chainBackSpec : ChangeSpec := { name := "chainBack", fn := fun _ => fun
  | [d1, d2, d3] => { results := [.lit (.bool true)], args := [d1, d2, d3] }
  | _ => none }
def chainBackRow : OpenClaim := { program := "ytepemfgiigceoaa", sum := "f230034e3fc1c0cea1a849941adea838e8e020be8ec5d5fa356247351d10ef84", func := "mirador/miradorlaw26.ChainBack", spec := "chainBack", plainKeys := false, apart := false }
def ChainBackSaid : Prop := chainBackRow.holds Try.pinned (OpenSpec.ofChange chainBackSpec)

/-- ITS FALSE NEIGHBOUR: 'it returns false'. Refute it at one input. -/
def chainBackWrong : ChangeSpec := { name := "chainBack", fn := fun _ => fun
  | [d1, d2, d3] => { results := [.lit (.bool false)], args := [d1, d2, d3] }
  | _ => none }
def ChainBackWrongFalsely : Prop := chainBackRow.holds Try.pinned (OpenSpec.ofChange chainBackWrong)

/-- 'miradorlaw16.BlockAsks': WHATEVER THE INPUT: true; the input reads as it did. -/
def blockAsksSpec : ChangeSpec := { name := "blockAsks", fn := fun _ => fun
  | [d1, d2, d3] => { results := [.lit (.bool true)], args := [d1, d2, d3] }
  | _ => none }
def blockAsksRow : OpenClaim := { program := "ytepemfgiigceoaa", sum := "f230034e3fc1c0cea1a849941adea838e8e020be8ec5d5fa356247351d10ef84", func := "mirador/miradorlaw16.BlockAsks", spec := "blockAsks", plainKeys := false, apart := false }
def BlockAsksSaid : Prop := blockAsksRow.holds Try.pinned (OpenSpec.ofChange blockAsksSpec)

/-- ITS FALSE NEIGHBOUR: 'it returns false'. Refute it at one input. -/
def blockAsksWrong : ChangeSpec := { name := "blockAsks", fn := fun _ => fun
  | [d1, d2, d3] => { results := [.lit (.bool false)], args := [d1, d2, d3] }
  | _ => none }
def BlockAsksWrongFalsely : Prop := blockAsksRow.holds Try.pinned (OpenSpec.ofChange blockAsksWrong)

/-- 'miradorlaw26.ChainLoads': WHATEVER THE INPUT: true; the input reads as it did. -/
def chainLoadsSpec : ChangeSpec := { name := "chainLoads", fn := fun _ => fun
  | [d1, d2, d3] => { results := [.lit (.bool true)], args := [d1, d2, d3] }
  | _ => none }
def chainLoadsRow : OpenClaim := { program := "ytepemfgiigceoaa", sum := "f230034e3fc1c0cea1a849941adea838e8e020be8ec5d5fa356247351d10ef84", func := "mirador/miradorlaw26.ChainLoads", spec := "chainLoads", plainKeys := false, apart := false }
def ChainLoadsSaid : Prop := chainLoadsRow.holds Try.pinned (OpenSpec.ofChange chainLoadsSpec)

/-- ITS FALSE NEIGHBOUR: 'it returns false'. Refute it at one input. -/
def chainLoadsWrong : ChangeSpec := { name := "chainLoads", fn := fun _ => fun
  | [d1, d2, d3] => { results := [.lit (.bool false)], args := [d1, d2, d3] }
  | _ => none }
def ChainLoadsWrongFalsely : Prop := chainLoadsRow.holds Try.pinned (OpenSpec.ofChange chainLoadsWrong)

/-- 'miradorlaw26.ChainDoes': WHATEVER THE INPUT: true; the input reads as it did. -/
def chainDoesSpec : ChangeSpec := { name := "chainDoes", fn := fun _ => fun
  | [d1, d2] => { results := [.lit (.bool true)], args := [d1, d2] }
  | _ => none }
def chainDoesRow : OpenClaim := { program := "ytepemfgiigceoaa", sum := "f230034e3fc1c0cea1a849941adea838e8e020be8ec5d5fa356247351d10ef84", func := "mirador/miradorlaw26.ChainDoes", spec := "chainDoes", plainKeys := false, apart := false }
def ChainDoesSaid : Prop := chainDoesRow.holds Try.pinned (OpenSpec.ofChange chainDoesSpec)

/-- ITS FALSE NEIGHBOUR: 'it returns false'. Refute it at one input. -/
def chainDoesWrong : ChangeSpec := { name := "chainDoes", fn := fun _ => fun
  | [d1, d2] => { results := [.lit (.bool false)], args := [d1, d2] }
  | _ => none }
def ChainDoesWrongFalsely : Prop := chainDoesRow.holds Try.pinned (OpenSpec.ofChange chainDoesWrong)

/-- 'miradorlaw26.ChainNil': WHATEVER THE INPUT: true; the input reads as it did. -/
def chainNilSpec : ChangeSpec := { name := "chainNil", fn := fun _ => fun
  | [d] => { results := [.lit (.bool true)], args := [d] }
  | _ => none }
def chainNilRow : OpenClaim := { program := "ytepemfgiigceoaa", sum := "f230034e3fc1c0cea1a849941adea838e8e020be8ec5d5fa356247351d10ef84", func := "mirador/miradorlaw26.ChainNil", spec := "chainNil", plainKeys := false, apart := false }
def ChainNilSaid : Prop := chainNilRow.holds Try.pinned (OpenSpec.ofChange chainNilSpec)

/-- ITS FALSE NEIGHBOUR: 'it returns false'. Refute it at one input. -/
def chainNilWrong : ChangeSpec := { name := "chainNil", fn := fun _ => fun
  | [d] => { results := [.lit (.bool false)], args := [d] }
  | _ => none }
def ChainNilWrongFalsely : Prop := chainNilRow.holds Try.pinned (OpenSpec.ofChange chainNilWrong)

/- THE SECOND FORM. 'bulk': how many values and letters a reading holds, each counted each time it is reached (what is shared counts as often as it is met; a slice's spare places count too). A statement '..UptoSaid' is the law's where the arguments, and the package variables that the reading takes, are together of bulk at most 1048576: NARROWER than '..Said'. Prove '..Said' where nothing that the law and all that it calls make is longer than what came in: it says more and counts as full. Else prove '..UptoSaid'. A law counts once. -/
mutual
def uptoBulk {H : Type} : DataW H → Nat
  | .lit (.string bytes) => bytes.length + 1
  | .lit _ => 1
  | .nil => 1
  | .ptr d => uptoBulk d + 1
  | .slice elems spare => uptoBulkAll elems + uptoBulkAll spare + 1
  | .agg parts => uptoBulkAll parts + 1
  | .iface _ d => uptoBulk d + 1
  | .map entries => uptoBulkEntries entries + 1
  | .held _ => 1
def uptoBulkAll {H : Type} : List (DataW H) → Nat
  | [] => 0
  | d :: r => uptoBulk d + uptoBulkAll r
def uptoBulkEntries {H : Type} : List (Lit × DataW H) → Nat
  | [] => 0
  | x :: r => uptoBulkEntry x + uptoBulkEntries r
def uptoBulkEntry {H : Type} : Lit × DataW H → Nat
  | (.string bytes, d) => bytes.length + uptoBulk d + 1
  | (_, d) => uptoBulk d + 1
 end
def uptoSmall : (H : Type) → List (DataW H) → Bool := fun _ ds => decide (uptoBulkAll ds ≤ 1048576)
def OpenSpec.upto (s : _root_.Go.ChangeSpec) : _root_.Go.OpenSpec := { _root_.Go.OpenSpec.ofChange s with cond := some uptoSmall }

/-- 'miradorlaw26.ChainBack', WHERE WHAT IT READS IS OF BULK AT MOST 1048576: true; the input reads as it did. -/
def chainBackUptoRow : OpenClaim := { program := "ytepemfgiigceoaa", sum := "f230034e3fc1c0cea1a849941adea838e8e020be8ec5d5fa356247351d10ef84", func := "mirador/miradorlaw26.ChainBack", spec := "chainBack", plainKeys := false, apart := false, narrowed := true }
def ChainBackUptoSaid : Prop := chainBackUptoRow.holds Try.pinned (OpenSpec.upto chainBackSpec)

/-- 'miradorlaw16.BlockAsks', WHERE WHAT IT READS IS OF BULK AT MOST 1048576: true; the input reads as it did. -/
def blockAsksUptoRow : OpenClaim := { program := "ytepemfgiigceoaa", sum := "f230034e3fc1c0cea1a849941adea838e8e020be8ec5d5fa356247351d10ef84", func := "mirador/miradorlaw16.BlockAsks", spec := "blockAsks", plainKeys := false, apart := false, narrowed := true }
def BlockAsksUptoSaid : Prop := blockAsksUptoRow.holds Try.pinned (OpenSpec.upto blockAsksSpec)

/-- 'miradorlaw26.ChainLoads', WHERE WHAT IT READS IS OF BULK AT MOST 1048576: true; the input reads as it did. -/
def chainLoadsUptoRow : OpenClaim := { program := "ytepemfgiigceoaa", sum := "f230034e3fc1c0cea1a849941adea838e8e020be8ec5d5fa356247351d10ef84", func := "mirador/miradorlaw26.ChainLoads", spec := "chainLoads", plainKeys := false, apart := false, narrowed := true }
def ChainLoadsUptoSaid : Prop := chainLoadsUptoRow.holds Try.pinned (OpenSpec.upto chainLoadsSpec)

/-- 'miradorlaw26.ChainDoes', WHERE WHAT IT READS IS OF BULK AT MOST 1048576: true; the input reads as it did. -/
def chainDoesUptoRow : OpenClaim := { program := "ytepemfgiigceoaa", sum := "f230034e3fc1c0cea1a849941adea838e8e020be8ec5d5fa356247351d10ef84", func := "mirador/miradorlaw26.ChainDoes", spec := "chainDoes", plainKeys := false, apart := false, narrowed := true }
def ChainDoesUptoSaid : Prop := chainDoesUptoRow.holds Try.pinned (OpenSpec.upto chainDoesSpec)

/-- 'miradorlaw26.ChainNil', WHERE WHAT IT READS IS OF BULK AT MOST 1048576: true; the input reads as it did. -/
def chainNilUptoRow : OpenClaim := { program := "ytepemfgiigceoaa", sum := "f230034e3fc1c0cea1a849941adea838e8e020be8ec5d5fa356247351d10ef84", func := "mirador/miradorlaw26.ChainNil", spec := "chainNil", plainKeys := false, apart := false, narrowed := true }
def ChainNilUptoSaid : Prop := chainNilUptoRow.holds Try.pinned (OpenSpec.upto chainNilSpec)

end Rows
end Go.Proofs.Ytepemfgiigceoaa
