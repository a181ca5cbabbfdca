/-
  No cell of these rows narrows 'for every input' (looked for: loops, veiled, ifaces, maps, wideKeys, modest, calm, conditions, laid).
  DERIVED. THE GIVEN ROWS OF THIS SEAT. 4 by the template 'for every input the law returns true; each argument reads behind the call as it read before'; 0 by the template 'total and deterministic' (their statements: YtllhdnfcneejaaaTotals.lean).
  GIVEN WITH THE SEED: the statements are not yours to turn. If you find one false, say at which input.
  Laid BY PROGRAM, IN A SANDBOX (cutbox-rows.mjs): the forced cells as the released guide's own fill.sh prints them over the translation 882f6357dac0204b… (all of the seat's roots in one cut). By AI agents, Wed Nov 11 2026. No macro, syntax, notation, axiom, sorry.
-/
import Derived.Test.YtllhdnfcneejaaaChecked
import GoSem.Claim
import GoSem.ClaimJoined
import GoSem.ClaimMapViews
import Derived.JoinedTies
import Derived.KernelRfl
namespace Go.Proofs.Ytllhdnfcneejaaa
/- THE CELL 'sum', in the pinned program and in every row, IS THE sha256 OF THE DUMP (.gsa) THAT YtllhdnfcneejaaaProg.lean LOADS. Nothing in Lean hashes anything: it is a label: what it is worth is what the hold of that sum in a sandbox is worth. -/
noncomputable def Try.pinned : Pinned := { name := "ytllhdnfcneejaaa", sum := "882f6357dac0204b7dacbff5f1b4692ef1ca03520a6e7c1f4e0bd4cb0e80eaf9", checked := Try.checked }
namespace Rows
def none {H : Type} : Left H := { results := [], args := [] }

/-- 'laws.FnExactWordUnpack': WHATEVER THE INPUT: true; the input reads as it did. -/
def fnExactWordUnpackSpec : ChangeSpec := { name := "fnExactWordUnpack", fn := fun _ => fun
  | [d] => { results := [.lit (.bool true)], args := [d] }
  | _ => none }
def fnExactWordUnpackRow : OpenClaim := { program := "ytllhdnfcneejaaa", sum := "882f6357dac0204b7dacbff5f1b4692ef1ca03520a6e7c1f4e0bd4cb0e80eaf9", func := "loop.example/turnpike/laws.FnExactWordUnpack", spec := "fnExactWordUnpack", inPlace := ["internal/reflectlite.TypeOf"], unfollowed := true, recurses := true, apart := false }
def FnExactWordUnpackSaid : Prop := fnExactWordUnpackRow.holds Try.pinned (OpenSpec.ofChange fnExactWordUnpackSpec)

/-- ITS FALSE NEIGHBOUR: 'it returns false'. Refute it at one input. -/
def fnExactWordUnpackWrong : ChangeSpec := { name := "fnExactWordUnpack", fn := fun _ => fun
  | [d] => { results := [.lit (.bool false)], args := [d] }
  | _ => none }
def FnExactWordUnpackWrongFalsely : Prop := fnExactWordUnpackRow.holds Try.pinned (OpenSpec.ofChange fnExactWordUnpackWrong)

/-- 'laws.FnWordBack': WHATEVER THE INPUT: true; the input reads as it did. -/
def fnWordBackSpec : ChangeSpec := { name := "fnWordBack", fn := fun _ => fun
  | [d] => { results := [.lit (.bool true)], args := [d] }
  | _ => none }
def fnWordBackRow : OpenClaim := { program := "ytllhdnfcneejaaa", sum := "882f6357dac0204b7dacbff5f1b4692ef1ca03520a6e7c1f4e0bd4cb0e80eaf9", func := "loop.example/turnpike/laws.FnWordBack", spec := "fnWordBack", inPlace := ["internal/reflectlite.TypeOf"], unfollowed := true, recurses := true, apart := false }
def FnWordBackSaid : Prop := fnWordBackRow.holds Try.pinned (OpenSpec.ofChange fnWordBackSpec)

/-- ITS FALSE NEIGHBOUR: 'it returns false'. Refute it at one input. -/
def fnWordBackWrong : ChangeSpec := { name := "fnWordBack", fn := fun _ => fun
  | [d] => { results := [.lit (.bool false)], args := [d] }
  | _ => none }
def FnWordBackWrongFalsely : Prop := fnWordBackRow.holds Try.pinned (OpenSpec.ofChange fnWordBackWrong)

/-- 'laws.FnWordStrict': WHATEVER THE INPUT: true; the input reads as it did. -/
def fnWordStrictSpec : ChangeSpec := { name := "fnWordStrict", fn := fun _ => fun
  | [d] => { results := [.lit (.bool true)], args := [d] }
  | _ => none }
def fnWordStrictRow : OpenClaim := { program := "ytllhdnfcneejaaa", sum := "882f6357dac0204b7dacbff5f1b4692ef1ca03520a6e7c1f4e0bd4cb0e80eaf9", func := "loop.example/turnpike/laws.FnWordStrict", spec := "fnWordStrict", inPlace := ["internal/reflectlite.TypeOf"], unfollowed := true, recurses := true, apart := false }
def FnWordStrictSaid : Prop := fnWordStrictRow.holds Try.pinned (OpenSpec.ofChange fnWordStrictSpec)

/-- ITS FALSE NEIGHBOUR: 'it returns false'. Refute it at one input. -/
def fnWordStrictWrong : ChangeSpec := { name := "fnWordStrict", fn := fun _ => fun
  | [d] => { results := [.lit (.bool false)], args := [d] }
  | _ => none }
def FnWordStrictWrongFalsely : Prop := fnWordStrictRow.holds Try.pinned (OpenSpec.ofChange fnWordStrictWrong)

/-- 'laws.FnExactDealWrite': WHATEVER THE INPUT: true; the input reads as it did. -/
def fnExactDealWriteSpec : ChangeSpec := { name := "fnExactDealWrite", fn := fun _ => fun
  | [d] => { results := [.lit (.bool true)], args := [d] }
  | _ => none }
def fnExactDealWriteRow : OpenClaim := { program := "ytllhdnfcneejaaa", sum := "882f6357dac0204b7dacbff5f1b4692ef1ca03520a6e7c1f4e0bd4cb0e80eaf9", func := "loop.example/turnpike/laws.FnExactDealWrite", spec := "fnExactDealWrite", inPlace := ["internal/abi.NoEscape"], unfollowed := true, recurses := true, apart := false }
def FnExactDealWriteSaid : Prop := fnExactDealWriteRow.holds Try.pinned (OpenSpec.ofChange fnExactDealWriteSpec)

/-- ITS FALSE NEIGHBOUR: 'it returns false'. Refute it at one input. -/
def fnExactDealWriteWrong : ChangeSpec := { name := "fnExactDealWrite", fn := fun _ => fun
  | [d] => { results := [.lit (.bool false)], args := [d] }
  | _ => none }
def FnExactDealWriteWrongFalsely : Prop := fnExactDealWriteRow.holds Try.pinned (OpenSpec.ofChange fnExactDealWriteWrong)

/- THE SECOND FORM. 'bulk': how many values and letters a reading holds, each counted each time it is reached (what is shared counts as often as it is met; a slice's spare places count too). A statement '..UptoSaid' is the law's where the arguments, and the package variables that the reading takes, are together of bulk at most 1048576: NARROWER than '..Said'. Prove '..Said' where nothing that the law and all that it calls make is longer than what came in: it says more and counts as full. Else prove '..UptoSaid'. A law counts once. -/
mutual
def uptoBulk {H : Type} : DataW H → Nat
  | .lit (.string bytes) => bytes.length + 1
  | .lit _ => 1
  | .nil => 1
  | .ptr d => uptoBulk d + 1
  | .slice elems spare => uptoBulkAll elems + uptoBulkAll spare + 1
  | .agg parts => uptoBulkAll parts + 1
  | .iface _ d => uptoBulk d + 1
  | .map entries => uptoBulkEntries entries + 1
  | .held _ => 1
def uptoBulkAll {H : Type} : List (DataW H) → Nat
  | [] => 0
  | d :: r => uptoBulk d + uptoBulkAll r
def uptoBulkEntries {H : Type} : List (Lit × DataW H) → Nat
  | [] => 0
  | x :: r => uptoBulkEntry x + uptoBulkEntries r
def uptoBulkEntry {H : Type} : Lit × DataW H → Nat
  | (.string bytes, d) => bytes.length + uptoBulk d + 1
  | (_, d) => uptoBulk d + 1
 end
def uptoSmall : (H : Type) → List (DataW H) → Bool := fun _ ds => decide (uptoBulkAll ds ≤ 1048576)
def OpenSpec.upto (s : _root_.Go.ChangeSpec) : _root_.Go.OpenSpec := { _root_.Go.OpenSpec.ofChange s with cond := some uptoSmall }

/-- 'laws.FnExactWordUnpack', WHERE WHAT IT READS IS OF BULK AT MOST 1048576: true; the input reads as it did. -/
def fnExactWordUnpackUptoRow : OpenClaim := { program := "ytllhdnfcneejaaa", sum := "882f6357dac0204b7dacbff5f1b4692ef1ca03520a6e7c1f4e0bd4cb0e80eaf9", func := "loop.example/turnpike/laws.FnExactWordUnpack", spec := "fnExactWordUnpack", inPlace := ["internal/reflectlite.TypeOf"], unfollowed := true, recurses := true, apart := false, narrowed := true }
def FnExactWordUnpackUptoSaid : Prop := fnExactWordUnpackUptoRow.holds Try.pinned (OpenSpec.upto fnExactWordUnpackSpec)

/-- 'laws.FnWordBack', WHERE WHAT IT READS IS OF BULK AT MOST 1048576: true; the input reads as it did. -/
def fnWordBackUptoRow : OpenClaim := { program := "ytllhdnfcneejaaa", sum := "882f6357dac0204b7dacbff5f1b4692ef1ca03520a6e7c1f4e0bd4cb0e80eaf9", func := "loop.example/turnpike/laws.FnWordBack", spec := "fnWordBack", inPlace := ["internal/reflectlite.TypeOf"], unfollowed := true, recurses := true, apart := false, narrowed := true }
def FnWordBackUptoSaid : Prop := fnWordBackUptoRow.holds Try.pinned (OpenSpec.upto fnWordBackSpec)

/-- 'laws.FnWordStrict', WHERE WHAT IT READS IS OF BULK AT MOST 1048576: true; the input reads as it did. -/
def fnWordStrictUptoRow : OpenClaim := { program := "ytllhdnfcneejaaa", sum := "882f6357dac0204b7dacbff5f1b4692ef1ca03520a6e7c1f4e0bd4cb0e80eaf9", func := "loop.example/turnpike/laws.FnWordStrict", spec := "fnWordStrict", inPlace := ["internal/reflectlite.TypeOf"], unfollowed := true, recurses := true, apart := false, narrowed := true }
def FnWordStrictUptoSaid : Prop := fnWordStrictUptoRow.holds Try.pinned (OpenSpec.upto fnWordStrictSpec)

/-- 'laws.FnExactDealWrite', WHERE WHAT IT READS IS OF BULK AT MOST 1048576: true; the input reads as it did. -/
def fnExactDealWriteUptoRow : OpenClaim := { program := "ytllhdnfcneejaaa", sum := "882f6357dac0204b7dacbff5f1b4692ef1ca03520a6e7c1f4e0bd4cb0e80eaf9", func := "loop.example/turnpike/laws.FnExactDealWrite", spec := "fnExactDealWrite", inPlace := ["internal/abi.NoEscape"], unfollowed := true, recurses := true, apart := false, narrowed := true }
def FnExactDealWriteUptoSaid : Prop := fnExactDealWriteUptoRow.holds Try.pinned (OpenSpec.upto fnExactDealWriteSpec)

end Rows
end Go.Proofs.Ytllhdnfcneejaaa
