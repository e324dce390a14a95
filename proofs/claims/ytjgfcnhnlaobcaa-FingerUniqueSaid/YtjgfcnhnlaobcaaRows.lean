/-
  No cell of these rows narrows 'for every input' (looked for: loops, veiled, ifaces, maps, wideKeys, modest, calm, conditions, laid).
  DERIVED. THE GIVEN ROWS OF THIS SEAT. 11 by the template 'for every input the law returns true; each argument reads behind the call as it read before'; 0 by the template 'total and deterministic' (their statements: YtjgfcnhnlaobcaaTotals.lean).
  GIVEN WITH THE SEED: the statements are not yours to turn. If you find one false, say at which input.
  Laid BY PROGRAM, IN A SANDBOX (cutbox-rows.mjs): the forced cells as the released guide's own fill.sh prints them over the translation fcec1786085a0024… (all of the seat's roots in one cut). By AI agents, Wed Nov 11 2026. No macro, syntax, notation, axiom, sorry.
-/
import Derived.Test.YtjgfcnhnlaobcaaChecked
import GoSem.Claim
import GoSem.ClaimJoined
import GoSem.ClaimMapViews
import Derived.JoinedTies
import Derived.KernelRfl
namespace Go.Proofs.Ytjgfcnhnlaobcaa
/- THE CELL 'sum', in the pinned program and in every row, IS THE sha256 OF THE DUMP (.gsa) THAT YtjgfcnhnlaobcaaProg.lean LOADS. Nothing in Lean hashes anything: it is a label: what it is worth is what the hold of that sum in a sandbox is worth. -/
noncomputable def Try.pinned : Pinned := { name := "ytjgfcnhnlaobcaa", sum := "fcec1786085a00242bfd1353cc4768225dd4d352858e09da07bb8485ad291bf6", checked := Try.checked }
namespace Rows
def none {H : Type} : Left H := { results := [], args := [] }

/-- 'foregonelaw20.FingerArith': WHATEVER THE INPUT: true; the input reads as it did. -/
def fingerArithSpec : ChangeSpec := { name := "fingerArith", fn := fun _ => fun
  | [d1, d2, d3, d4] => { results := [.lit (.bool true)], args := [d1, d2, d3, d4] }
  | _ => none }
def fingerArithRow : OpenClaim := { program := "ytjgfcnhnlaobcaa", sum := "fcec1786085a00242bfd1353cc4768225dd4d352858e09da07bb8485ad291bf6", func := "foregone/foregonelaw20.FingerArith", spec := "fingerArith", unfollowed := true, recurses := true, apart := false }
def FingerArithSaid : Prop := fingerArithRow.holds Try.pinned (OpenSpec.ofChange fingerArithSpec)

/-- ITS FALSE NEIGHBOUR: 'it returns false'. Refute it at one input. -/
def fingerArithWrong : ChangeSpec := { name := "fingerArith", fn := fun _ => fun
  | [d1, d2, d3, d4] => { results := [.lit (.bool false)], args := [d1, d2, d3, d4] }
  | _ => none }
def FingerArithWrongFalsely : Prop := fingerArithRow.holds Try.pinned (OpenSpec.ofChange fingerArithWrong)

/-- 'foregonelaw20.FingerChance': WHATEVER THE INPUT: true; the input reads as it did. -/
def fingerChanceSpec : ChangeSpec := { name := "fingerChance", fn := fun _ => fun
  | [d1, d2] => { results := [.lit (.bool true)], args := [d1, d2] }
  | _ => none }
def fingerChanceRow : OpenClaim := { program := "ytjgfcnhnlaobcaa", sum := "fcec1786085a00242bfd1353cc4768225dd4d352858e09da07bb8485ad291bf6", func := "foregone/foregonelaw20.FingerChance", spec := "fingerChance", unfollowed := true, recurses := true, apart := false }
def FingerChanceSaid : Prop := fingerChanceRow.holds Try.pinned (OpenSpec.ofChange fingerChanceSpec)

/-- ITS FALSE NEIGHBOUR: 'it returns false'. Refute it at one input. -/
def fingerChanceWrong : ChangeSpec := { name := "fingerChance", fn := fun _ => fun
  | [d1, d2] => { results := [.lit (.bool false)], args := [d1, d2] }
  | _ => none }
def FingerChanceWrongFalsely : Prop := fingerChanceRow.holds Try.pinned (OpenSpec.ofChange fingerChanceWrong)

/-- 'foregonelaw20.FingerField': WHATEVER THE INPUT: true; the input reads as it did. -/
def fingerFieldSpec : ChangeSpec := { name := "fingerField", fn := fun _ => fun
  | [d1, d2] => { results := [.lit (.bool true)], args := [d1, d2] }
  | _ => none }
def fingerFieldRow : OpenClaim := { program := "ytjgfcnhnlaobcaa", sum := "fcec1786085a00242bfd1353cc4768225dd4d352858e09da07bb8485ad291bf6", func := "foregone/foregonelaw20.FingerField", spec := "fingerField", unfollowed := true, recurses := true, apart := false }
def FingerFieldSaid : Prop := fingerFieldRow.holds Try.pinned (OpenSpec.ofChange fingerFieldSpec)

/-- ITS FALSE NEIGHBOUR: 'it returns false'. Refute it at one input. -/
def fingerFieldWrong : ChangeSpec := { name := "fingerField", fn := fun _ => fun
  | [d1, d2] => { results := [.lit (.bool false)], args := [d1, d2] }
  | _ => none }
def FingerFieldWrongFalsely : Prop := fingerFieldRow.holds Try.pinned (OpenSpec.ofChange fingerFieldWrong)

/-- 'foregonelaw20.FingerLinear': WHATEVER THE INPUT: true; the input reads as it did. -/
def fingerLinearSpec : ChangeSpec := { name := "fingerLinear", fn := fun _ => fun
  | [d1, d2, d3] => { results := [.lit (.bool true)], args := [d1, d2, d3] }
  | _ => none }
def fingerLinearRow : OpenClaim := { program := "ytjgfcnhnlaobcaa", sum := "fcec1786085a00242bfd1353cc4768225dd4d352858e09da07bb8485ad291bf6", func := "foregone/foregonelaw20.FingerLinear", spec := "fingerLinear", unfollowed := true, recurses := true, apart := false }
def FingerLinearSaid : Prop := fingerLinearRow.holds Try.pinned (OpenSpec.ofChange fingerLinearSpec)

/-- ITS FALSE NEIGHBOUR: 'it returns false'. Refute it at one input. -/
def fingerLinearWrong : ChangeSpec := { name := "fingerLinear", fn := fun _ => fun
  | [d1, d2, d3] => { results := [.lit (.bool false)], args := [d1, d2, d3] }
  | _ => none }
def FingerLinearWrongFalsely : Prop := fingerLinearRow.holds Try.pinned (OpenSpec.ofChange fingerLinearWrong)

/-- 'foregonelaw20.FingerTwins': WHATEVER THE INPUT: true; the input reads as it did. -/
def fingerTwinsSpec : ChangeSpec := { name := "fingerTwins", fn := fun _ => fun
  | [d1, d2, d3] => { results := [.lit (.bool true)], args := [d1, d2, d3] }
  | _ => none }
def fingerTwinsRow : OpenClaim := { program := "ytjgfcnhnlaobcaa", sum := "fcec1786085a00242bfd1353cc4768225dd4d352858e09da07bb8485ad291bf6", func := "foregone/foregonelaw20.FingerTwins", spec := "fingerTwins", unfollowed := true, recurses := true, apart := false }
def FingerTwinsSaid : Prop := fingerTwinsRow.holds Try.pinned (OpenSpec.ofChange fingerTwinsSpec)

/-- ITS FALSE NEIGHBOUR: 'it returns false'. Refute it at one input. -/
def fingerTwinsWrong : ChangeSpec := { name := "fingerTwins", fn := fun _ => fun
  | [d1, d2, d3] => { results := [.lit (.bool false)], args := [d1, d2, d3] }
  | _ => none }
def FingerTwinsWrongFalsely : Prop := fingerTwinsRow.holds Try.pinned (OpenSpec.ofChange fingerTwinsWrong)

/-- 'foregonelaw20.FingerCounted': WHATEVER THE INPUT: true; the input reads as it did. -/
def fingerCountedSpec : ChangeSpec := { name := "fingerCounted", fn := fun _ => fun
  | [d] => { results := [.lit (.bool true)], args := [d] }
  | _ => none }
def fingerCountedRow : OpenClaim := { program := "ytjgfcnhnlaobcaa", sum := "fcec1786085a00242bfd1353cc4768225dd4d352858e09da07bb8485ad291bf6", func := "foregone/foregonelaw20.FingerCounted", spec := "fingerCounted", unfollowed := true, recurses := true, apart := false }
def FingerCountedSaid : Prop := fingerCountedRow.holds Try.pinned (OpenSpec.ofChange fingerCountedSpec)

/-- ITS FALSE NEIGHBOUR: 'it returns false'. Refute it at one input. -/
def fingerCountedWrong : ChangeSpec := { name := "fingerCounted", fn := fun _ => fun
  | [d] => { results := [.lit (.bool false)], args := [d] }
  | _ => none }
def FingerCountedWrongFalsely : Prop := fingerCountedRow.holds Try.pinned (OpenSpec.ofChange fingerCountedWrong)

/-- 'foregonelaw20.FingerFirst': WHATEVER THE INPUT: true; the input reads as it did. -/
def fingerFirstSpec : ChangeSpec := { name := "fingerFirst", fn := fun _ => fun
  | [d1, d2] => { results := [.lit (.bool true)], args := [d1, d2] }
  | _ => none }
def fingerFirstRow : OpenClaim := { program := "ytjgfcnhnlaobcaa", sum := "fcec1786085a00242bfd1353cc4768225dd4d352858e09da07bb8485ad291bf6", func := "foregone/foregonelaw20.FingerFirst", spec := "fingerFirst", unfollowed := true, recurses := true, apart := false }
def FingerFirstSaid : Prop := fingerFirstRow.holds Try.pinned (OpenSpec.ofChange fingerFirstSpec)

/-- ITS FALSE NEIGHBOUR: 'it returns false'. Refute it at one input. -/
def fingerFirstWrong : ChangeSpec := { name := "fingerFirst", fn := fun _ => fun
  | [d1, d2] => { results := [.lit (.bool false)], args := [d1, d2] }
  | _ => none }
def FingerFirstWrongFalsely : Prop := fingerFirstRow.holds Try.pinned (OpenSpec.ofChange fingerFirstWrong)

/-- 'foregonelaw20.FingerFactors': WHATEVER THE INPUT: true; the input reads as it did. -/
def fingerFactorsSpec : ChangeSpec := { name := "fingerFactors", fn := fun _ => fun
  | [d1, d2, d3, d4] => { results := [.lit (.bool true)], args := [d1, d2, d3, d4] }
  | _ => none }
def fingerFactorsRow : OpenClaim := { program := "ytjgfcnhnlaobcaa", sum := "fcec1786085a00242bfd1353cc4768225dd4d352858e09da07bb8485ad291bf6", func := "foregone/foregonelaw20.FingerFactors", spec := "fingerFactors", unfollowed := true, recurses := true, apart := false }
def FingerFactorsSaid : Prop := fingerFactorsRow.holds Try.pinned (OpenSpec.ofChange fingerFactorsSpec)

/-- ITS FALSE NEIGHBOUR: 'it returns false'. Refute it at one input. -/
def fingerFactorsWrong : ChangeSpec := { name := "fingerFactors", fn := fun _ => fun
  | [d1, d2, d3, d4] => { results := [.lit (.bool false)], args := [d1, d2, d3, d4] }
  | _ => none }
def FingerFactorsWrongFalsely : Prop := fingerFactorsRow.holds Try.pinned (OpenSpec.ofChange fingerFactorsWrong)

/-- 'foregonelaw20.FingerBytes': WHATEVER THE INPUT: true; the input reads as it did. -/
def fingerBytesSpec : ChangeSpec := { name := "fingerBytes", fn := fun _ => fun
  | [d1, d2, d3, d4, d5, d6, d7, d8] => { results := [.lit (.bool true)], args := [d1, d2, d3, d4, d5, d6, d7, d8] }
  | _ => none }
def fingerBytesRow : OpenClaim := { program := "ytjgfcnhnlaobcaa", sum := "fcec1786085a00242bfd1353cc4768225dd4d352858e09da07bb8485ad291bf6", func := "foregone/foregonelaw20.FingerBytes", spec := "fingerBytes", unfollowed := true, recurses := true, apart := false }
def FingerBytesSaid : Prop := fingerBytesRow.holds Try.pinned (OpenSpec.ofChange fingerBytesSpec)

/-- ITS FALSE NEIGHBOUR: 'it returns false'. Refute it at one input. -/
def fingerBytesWrong : ChangeSpec := { name := "fingerBytes", fn := fun _ => fun
  | [d1, d2, d3, d4, d5, d6, d7, d8] => { results := [.lit (.bool false)], args := [d1, d2, d3, d4, d5, d6, d7, d8] }
  | _ => none }
def FingerBytesWrongFalsely : Prop := fingerBytesRow.holds Try.pinned (OpenSpec.ofChange fingerBytesWrong)

/-- 'foregonelaw20.FingerJoined': WHATEVER THE INPUT: true; the input reads as it did. -/
def fingerJoinedSpec : ChangeSpec := { name := "fingerJoined", fn := fun _ => fun
  | [d1, d2, d3, d4, d5] => { results := [.lit (.bool true)], args := [d1, d2, d3, d4, d5] }
  | _ => none }
def fingerJoinedRow : OpenClaim := { program := "ytjgfcnhnlaobcaa", sum := "fcec1786085a00242bfd1353cc4768225dd4d352858e09da07bb8485ad291bf6", func := "foregone/foregonelaw20.FingerJoined", spec := "fingerJoined", unfollowed := true, recurses := true, apart := false }
def FingerJoinedSaid : Prop := fingerJoinedRow.holds Try.pinned (OpenSpec.ofChange fingerJoinedSpec)

/-- ITS FALSE NEIGHBOUR: 'it returns false'. Refute it at one input. -/
def fingerJoinedWrong : ChangeSpec := { name := "fingerJoined", fn := fun _ => fun
  | [d1, d2, d3, d4, d5] => { results := [.lit (.bool false)], args := [d1, d2, d3, d4, d5] }
  | _ => none }
def FingerJoinedWrongFalsely : Prop := fingerJoinedRow.holds Try.pinned (OpenSpec.ofChange fingerJoinedWrong)

/-- 'foregonelaw20.FingerUnique': WHATEVER THE INPUT: true; the input reads as it did. -/
def fingerUniqueSpec : ChangeSpec := { name := "fingerUnique", fn := fun _ => fun
  | [d1, d2] => { results := [.lit (.bool true)], args := [d1, d2] }
  | _ => none }
def fingerUniqueRow : OpenClaim := { program := "ytjgfcnhnlaobcaa", sum := "fcec1786085a00242bfd1353cc4768225dd4d352858e09da07bb8485ad291bf6", func := "foregone/foregonelaw20.FingerUnique", spec := "fingerUnique", unfollowed := true, recurses := true, apart := false }
def FingerUniqueSaid : Prop := fingerUniqueRow.holds Try.pinned (OpenSpec.ofChange fingerUniqueSpec)

/-- ITS FALSE NEIGHBOUR: 'it returns false'. Refute it at one input. -/
def fingerUniqueWrong : ChangeSpec := { name := "fingerUnique", fn := fun _ => fun
  | [d1, d2] => { results := [.lit (.bool false)], args := [d1, d2] }
  | _ => none }
def FingerUniqueWrongFalsely : Prop := fingerUniqueRow.holds Try.pinned (OpenSpec.ofChange fingerUniqueWrong)

/- THE SECOND FORM. 'bulk': how many values and letters a reading holds, each counted each time it is reached (what is shared counts as often as it is met; a slice's spare places count too). A statement '..UptoSaid' is the law's where the arguments, and the package variables that the reading takes, are together of bulk at most 1048576: NARROWER than '..Said'. Prove '..Said' where nothing that the law and all that it calls make is longer than what came in: it says more and counts as full. Else prove '..UptoSaid'. A law counts once. -/
mutual
def uptoBulk {H : Type} : DataW H → Nat
  | .lit (.string bytes) => bytes.length + 1
  | .lit _ => 1
  | .nil => 1
  | .ptr d => uptoBulk d + 1
  | .slice elems spare => uptoBulkAll elems + uptoBulkAll spare + 1
  | .agg parts => uptoBulkAll parts + 1
  | .iface _ d => uptoBulk d + 1
  | .map entries => uptoBulkEntries entries + 1
  | .held _ => 1
def uptoBulkAll {H : Type} : List (DataW H) → Nat
  | [] => 0
  | d :: r => uptoBulk d + uptoBulkAll r
def uptoBulkEntries {H : Type} : List (Lit × DataW H) → Nat
  | [] => 0
  | x :: r => uptoBulkEntry x + uptoBulkEntries r
def uptoBulkEntry {H : Type} : Lit × DataW H → Nat
  | (.string bytes, d) => bytes.length + uptoBulk d + 1
  | (_, d) => uptoBulk d + 1
 end
def uptoSmall : (H : Type) → List (DataW H) → Bool := fun _ ds => decide (uptoBulkAll ds ≤ 1048576)
def OpenSpec.upto (s : _root_.Go.ChangeSpec) : _root_.Go.OpenSpec := { _root_.Go.OpenSpec.ofChange s with cond := some uptoSmall }

/-- 'foregonelaw20.FingerArith', WHERE WHAT IT READS IS OF BULK AT MOST 1048576: true; the input reads as it did. -/
def fingerArithUptoRow : OpenClaim := { program := "ytjgfcnhnlaobcaa", sum := "fcec1786085a00242bfd1353cc4768225dd4d352858e09da07bb8485ad291bf6", func := "foregone/foregonelaw20.FingerArith", spec := "fingerArith", unfollowed := true, recurses := true, apart := false, narrowed := true }
def FingerArithUptoSaid : Prop := fingerArithUptoRow.holds Try.pinned (OpenSpec.upto fingerArithSpec)

/-- 'foregonelaw20.FingerChance', WHERE WHAT IT READS IS OF BULK AT MOST 1048576: true; the input reads as it did. -/
def fingerChanceUptoRow : OpenClaim := { program := "ytjgfcnhnlaobcaa", sum := "fcec1786085a00242bfd1353cc4768225dd4d352858e09da07bb8485ad291bf6", func := "foregone/foregonelaw20.FingerChance", spec := "fingerChance", unfollowed := true, recurses := true, apart := false, narrowed := true }
def FingerChanceUptoSaid : Prop := fingerChanceUptoRow.holds Try.pinned (OpenSpec.upto fingerChanceSpec)

/-- 'foregonelaw20.FingerField', WHERE WHAT IT READS IS OF BULK AT MOST 1048576: true; the input reads as it did. -/
def fingerFieldUptoRow : OpenClaim := { program := "ytjgfcnhnlaobcaa", sum := "fcec1786085a00242bfd1353cc4768225dd4d352858e09da07bb8485ad291bf6", func := "foregone/foregonelaw20.FingerField", spec := "fingerField", unfollowed := true, recurses := true, apart := false, narrowed := true }
def FingerFieldUptoSaid : Prop := fingerFieldUptoRow.holds Try.pinned (OpenSpec.upto fingerFieldSpec)

/-- 'foregonelaw20.FingerLinear', WHERE WHAT IT READS IS OF BULK AT MOST 1048576: true; the input reads as it did. -/
def fingerLinearUptoRow : OpenClaim := { program := "ytjgfcnhnlaobcaa", sum := "fcec1786085a00242bfd1353cc4768225dd4d352858e09da07bb8485ad291bf6", func := "foregone/foregonelaw20.FingerLinear", spec := "fingerLinear", unfollowed := true, recurses := true, apart := false, narrowed := true }
def FingerLinearUptoSaid : Prop := fingerLinearUptoRow.holds Try.pinned (OpenSpec.upto fingerLinearSpec)

/-- 'foregonelaw20.FingerTwins', WHERE WHAT IT READS IS OF BULK AT MOST 1048576: true; the input reads as it did. -/
def fingerTwinsUptoRow : OpenClaim := { program := "ytjgfcnhnlaobcaa", sum := "fcec1786085a00242bfd1353cc4768225dd4d352858e09da07bb8485ad291bf6", func := "foregone/foregonelaw20.FingerTwins", spec := "fingerTwins", unfollowed := true, recurses := true, apart := false, narrowed := true }
def FingerTwinsUptoSaid : Prop := fingerTwinsUptoRow.holds Try.pinned (OpenSpec.upto fingerTwinsSpec)

/-- 'foregonelaw20.FingerCounted', WHERE WHAT IT READS IS OF BULK AT MOST 1048576: true; the input reads as it did. -/
def fingerCountedUptoRow : OpenClaim := { program := "ytjgfcnhnlaobcaa", sum := "fcec1786085a00242bfd1353cc4768225dd4d352858e09da07bb8485ad291bf6", func := "foregone/foregonelaw20.FingerCounted", spec := "fingerCounted", unfollowed := true, recurses := true, apart := false, narrowed := true }
def FingerCountedUptoSaid : Prop := fingerCountedUptoRow.holds Try.pinned (OpenSpec.upto fingerCountedSpec)

/-- 'foregonelaw20.FingerFirst', WHERE WHAT IT READS IS OF BULK AT MOST 1048576: true; the input reads as it did. -/
def fingerFirstUptoRow : OpenClaim := { program := "ytjgfcnhnlaobcaa", sum := "fcec1786085a00242bfd1353cc4768225dd4d352858e09da07bb8485ad291bf6", func := "foregone/foregonelaw20.FingerFirst", spec := "fingerFirst", unfollowed := true, recurses := true, apart := false, narrowed := true }
def FingerFirstUptoSaid : Prop := fingerFirstUptoRow.holds Try.pinned (OpenSpec.upto fingerFirstSpec)

/-- 'foregonelaw20.FingerFactors', WHERE WHAT IT READS IS OF BULK AT MOST 1048576: true; the input reads as it did. -/
def fingerFactorsUptoRow : OpenClaim := { program := "ytjgfcnhnlaobcaa", sum := "fcec1786085a00242bfd1353cc4768225dd4d352858e09da07bb8485ad291bf6", func := "foregone/foregonelaw20.FingerFactors", spec := "fingerFactors", unfollowed := true, recurses := true, apart := false, narrowed := true }
def FingerFactorsUptoSaid : Prop := fingerFactorsUptoRow.holds Try.pinned (OpenSpec.upto fingerFactorsSpec)

/-- 'foregonelaw20.FingerBytes', WHERE WHAT IT READS IS OF BULK AT MOST 1048576: true; the input reads as it did. -/
def fingerBytesUptoRow : OpenClaim := { program := "ytjgfcnhnlaobcaa", sum := "fcec1786085a00242bfd1353cc4768225dd4d352858e09da07bb8485ad291bf6", func := "foregone/foregonelaw20.FingerBytes", spec := "fingerBytes", unfollowed := true, recurses := true, apart := false, narrowed := true }
def FingerBytesUptoSaid : Prop := fingerBytesUptoRow.holds Try.pinned (OpenSpec.upto fingerBytesSpec)

/-- 'foregonelaw20.FingerJoined', WHERE WHAT IT READS IS OF BULK AT MOST 1048576: true; the input reads as it did. -/
def fingerJoinedUptoRow : OpenClaim := { program := "ytjgfcnhnlaobcaa", sum := "fcec1786085a00242bfd1353cc4768225dd4d352858e09da07bb8485ad291bf6", func := "foregone/foregonelaw20.FingerJoined", spec := "fingerJoined", unfollowed := true, recurses := true, apart := false, narrowed := true }
def FingerJoinedUptoSaid : Prop := fingerJoinedUptoRow.holds Try.pinned (OpenSpec.upto fingerJoinedSpec)

/-- 'foregonelaw20.FingerUnique', WHERE WHAT IT READS IS OF BULK AT MOST 1048576: true; the input reads as it did. -/
def fingerUniqueUptoRow : OpenClaim := { program := "ytjgfcnhnlaobcaa", sum := "fcec1786085a00242bfd1353cc4768225dd4d352858e09da07bb8485ad291bf6", func := "foregone/foregonelaw20.FingerUnique", spec := "fingerUnique", unfollowed := true, recurses := true, apart := false, narrowed := true }
def FingerUniqueUptoSaid : Prop := fingerUniqueUptoRow.holds Try.pinned (OpenSpec.upto fingerUniqueSpec)

end Rows
end Go.Proofs.Ytjgfcnhnlaobcaa
