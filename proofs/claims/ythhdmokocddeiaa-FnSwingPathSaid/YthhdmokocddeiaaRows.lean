/-
  No cell of these rows narrows 'for every input' (looked for: loops, veiled, ifaces, maps, wideKeys, modest, calm, conditions, laid).
  DERIVED. THE GIVEN ROWS OF THIS SEAT. 7 by the template 'for every input the law returns true; each argument reads behind the call as it read before'; 0 by the template 'total and deterministic' (their statements: YthhdmokocddeiaaTotals.lean).
  GIVEN WITH THE SEED: the statements are not yours to turn. If you find one false, say at which input.
  Laid BY PROGRAM, IN A SANDBOX (cutbox-rows.mjs): the forced cells as the released guide's own fill.sh prints them over the translation 3e039819296a0ebd… (all of the seat's roots in one cut). By AI agents, Wed Nov 11 2026. No macro, syntax, notation, axiom, sorry.
-/
import Derived.Test.YthhdmokocddeiaaChecked
import GoSem.Claim
import GoSem.ClaimJoined
import GoSem.ClaimMapViews
import Derived.JoinedTies
import Derived.KernelRfl
namespace Go.Proofs.Ythhdmokocddeiaa
/- THE CELL 'sum', in the pinned program and in every row, IS THE sha256 OF THE DUMP (.gsa) THAT YthhdmokocddeiaaProg.lean LOADS. Nothing in Lean hashes anything: it is a label: what it is worth is what the hold of that sum in a sandbox is worth. -/
noncomputable def Try.pinned : Pinned := { name := "ythhdmokocddeiaa", sum := "3e039819296a0ebdaf45d352aba52d89a1738b88ba175a500d3a7526cee12b95", checked := Try.checked }
namespace Rows
def none {H : Type} : Left H := { results := [], args := [] }

/-- 'laws.FnExactSurdTimes': WHATEVER THE INPUT: true; the input reads as it did. -/
def fnExactSurdTimesSpec : ChangeSpec := { name := "fnExactSurdTimes", fn := fun _ => fun
  | [d1, d2] => { results := [.lit (.bool true)], args := [d1, d2] }
  | _ => none }
def fnExactSurdTimesRow : OpenClaim := { program := "ythhdmokocddeiaa", sum := "3e039819296a0ebdaf45d352aba52d89a1738b88ba175a500d3a7526cee12b95", func := "loop.example/turningwheels/laws.FnExactSurdTimes", spec := "fnExactSurdTimes", apart := false }
def FnExactSurdTimesSaid : Prop := fnExactSurdTimesRow.holds Try.pinned (OpenSpec.ofChange fnExactSurdTimesSpec)

/-- ITS FALSE NEIGHBOUR: 'it returns false'. Refute it at one input. -/
def fnExactSurdTimesWrong : ChangeSpec := { name := "fnExactSurdTimes", fn := fun _ => fun
  | [d1, d2] => { results := [.lit (.bool false)], args := [d1, d2] }
  | _ => none }
def FnExactSurdTimesWrongFalsely : Prop := fnExactSurdTimesRow.holds Try.pinned (OpenSpec.ofChange fnExactSurdTimesWrong)

/-- 'laws.FnSwing': WHATEVER THE INPUT: true; the input reads as it did. -/
def fnSwingSpec : ChangeSpec := { name := "fnSwing", fn := fun _ => fun
  | [d] => { results := [.lit (.bool true)], args := [d] }
  | _ => none }
def fnSwingRow : OpenClaim := { program := "ythhdmokocddeiaa", sum := "3e039819296a0ebdaf45d352aba52d89a1738b88ba175a500d3a7526cee12b95", func := "loop.example/turningwheels/laws.FnSwing", spec := "fnSwing", apart := false }
def FnSwingSaid : Prop := fnSwingRow.holds Try.pinned (OpenSpec.ofChange fnSwingSpec)

/-- ITS FALSE NEIGHBOUR: 'it returns false'. Refute it at one input. -/
def fnSwingWrong : ChangeSpec := { name := "fnSwing", fn := fun _ => fun
  | [d] => { results := [.lit (.bool false)], args := [d] }
  | _ => none }
def FnSwingWrongFalsely : Prop := fnSwingRow.holds Try.pinned (OpenSpec.ofChange fnSwingWrong)

/-- 'laws.FnSwingAt': WHATEVER THE INPUT: true; the input reads as it did. -/
def fnSwingAtSpec : ChangeSpec := { name := "fnSwingAt", fn := fun _ => fun
  | [d] => { results := [.lit (.bool true)], args := [d] }
  | _ => none }
def fnSwingAtRow : OpenClaim := { program := "ythhdmokocddeiaa", sum := "3e039819296a0ebdaf45d352aba52d89a1738b88ba175a500d3a7526cee12b95", func := "loop.example/turningwheels/laws.FnSwingAt", spec := "fnSwingAt", apart := false }
def FnSwingAtSaid : Prop := fnSwingAtRow.holds Try.pinned (OpenSpec.ofChange fnSwingAtSpec)

/-- ITS FALSE NEIGHBOUR: 'it returns false'. Refute it at one input. -/
def fnSwingAtWrong : ChangeSpec := { name := "fnSwingAt", fn := fun _ => fun
  | [d] => { results := [.lit (.bool false)], args := [d] }
  | _ => none }
def FnSwingAtWrongFalsely : Prop := fnSwingAtRow.holds Try.pinned (OpenSpec.ofChange fnSwingAtWrong)

/-- 'laws.FnSwingSum': WHATEVER THE INPUT: true; the input reads as it did. -/
def fnSwingSumSpec : ChangeSpec := { name := "fnSwingSum", fn := fun _ => fun
  | [d] => { results := [.lit (.bool true)], args := [d] }
  | _ => none }
def fnSwingSumRow : OpenClaim := { program := "ythhdmokocddeiaa", sum := "3e039819296a0ebdaf45d352aba52d89a1738b88ba175a500d3a7526cee12b95", func := "loop.example/turningwheels/laws.FnSwingSum", spec := "fnSwingSum", apart := false }
def FnSwingSumSaid : Prop := fnSwingSumRow.holds Try.pinned (OpenSpec.ofChange fnSwingSumSpec)

/-- ITS FALSE NEIGHBOUR: 'it returns false'. Refute it at one input. -/
def fnSwingSumWrong : ChangeSpec := { name := "fnSwingSum", fn := fun _ => fun
  | [d] => { results := [.lit (.bool false)], args := [d] }
  | _ => none }
def FnSwingSumWrongFalsely : Prop := fnSwingSumRow.holds Try.pinned (OpenSpec.ofChange fnSwingSumWrong)

/-- 'laws.FnRest': WHATEVER THE INPUT: true; the input reads as it did. -/
def fnRestSpec : ChangeSpec := { name := "fnRest", fn := fun _ => fun
  | [d] => { results := [.lit (.bool true)], args := [d] }
  | _ => none }
def fnRestRow : OpenClaim := { program := "ythhdmokocddeiaa", sum := "3e039819296a0ebdaf45d352aba52d89a1738b88ba175a500d3a7526cee12b95", func := "loop.example/turningwheels/laws.FnRest", spec := "fnRest", unfollowed := true, recurses := true, apart := false }
def FnRestSaid : Prop := fnRestRow.holds Try.pinned (OpenSpec.ofChange fnRestSpec)

/-- ITS FALSE NEIGHBOUR: 'it returns false'. Refute it at one input. -/
def fnRestWrong : ChangeSpec := { name := "fnRest", fn := fun _ => fun
  | [d] => { results := [.lit (.bool false)], args := [d] }
  | _ => none }
def FnRestWrongFalsely : Prop := fnRestRow.holds Try.pinned (OpenSpec.ofChange fnRestWrong)

/-- 'laws.FnSmall': WHATEVER THE INPUT: true; the input reads as it did. -/
def fnSmallSpec : ChangeSpec := { name := "fnSmall", fn := fun _ => fun
  | [d] => { results := [.lit (.bool true)], args := [d] }
  | _ => none }
def fnSmallRow : OpenClaim := { program := "ythhdmokocddeiaa", sum := "3e039819296a0ebdaf45d352aba52d89a1738b88ba175a500d3a7526cee12b95", func := "loop.example/turningwheels/laws.FnSmall", spec := "fnSmall", unfollowed := true, recurses := true, apart := false }
def FnSmallSaid : Prop := fnSmallRow.holds Try.pinned (OpenSpec.ofChange fnSmallSpec)

/-- ITS FALSE NEIGHBOUR: 'it returns false'. Refute it at one input. -/
def fnSmallWrong : ChangeSpec := { name := "fnSmall", fn := fun _ => fun
  | [d] => { results := [.lit (.bool false)], args := [d] }
  | _ => none }
def FnSmallWrongFalsely : Prop := fnSmallRow.holds Try.pinned (OpenSpec.ofChange fnSmallWrong)

/-- 'laws.FnSwingPath': WHATEVER THE INPUT: true; the input reads as it did. -/
def fnSwingPathSpec : ChangeSpec := { name := "fnSwingPath", fn := fun _ => fun
  | [d] => { results := [.lit (.bool true)], args := [d] }
  | _ => none }
def fnSwingPathRow : OpenClaim := { program := "ythhdmokocddeiaa", sum := "3e039819296a0ebdaf45d352aba52d89a1738b88ba175a500d3a7526cee12b95", func := "loop.example/turningwheels/laws.FnSwingPath", spec := "fnSwingPath", unfollowed := true, recurses := true, apart := false }
def FnSwingPathSaid : Prop := fnSwingPathRow.holds Try.pinned (OpenSpec.ofChange fnSwingPathSpec)

/-- ITS FALSE NEIGHBOUR: 'it returns false'. Refute it at one input. -/
def fnSwingPathWrong : ChangeSpec := { name := "fnSwingPath", fn := fun _ => fun
  | [d] => { results := [.lit (.bool false)], args := [d] }
  | _ => none }
def FnSwingPathWrongFalsely : Prop := fnSwingPathRow.holds Try.pinned (OpenSpec.ofChange fnSwingPathWrong)

/- THE SECOND FORM. 'bulk': how many values and letters a reading holds, each counted each time it is reached (what is shared counts as often as it is met; a slice's spare places count too). A statement '..UptoSaid' is the law's where the arguments, and the package variables that the reading takes, are together of bulk at most 1048576: NARROWER than '..Said'. Prove '..Said' where nothing that the law and all that it calls make is longer than what came in: it says more and counts as full. Else prove '..UptoSaid'. A law counts once. -/
mutual
def uptoBulk {H : Type} : DataW H → Nat
  | .lit (.string bytes) => bytes.length + 1
  | .lit _ => 1
  | .nil => 1
  | .ptr d => uptoBulk d + 1
  | .slice elems spare => uptoBulkAll elems + uptoBulkAll spare + 1
  | .agg parts => uptoBulkAll parts + 1
  | .iface _ d => uptoBulk d + 1
  | .map entries => uptoBulkEntries entries + 1
  | .held _ => 1
def uptoBulkAll {H : Type} : List (DataW H) → Nat
  | [] => 0
  | d :: r => uptoBulk d + uptoBulkAll r
def uptoBulkEntries {H : Type} : List (Lit × DataW H) → Nat
  | [] => 0
  | x :: r => uptoBulkEntry x + uptoBulkEntries r
def uptoBulkEntry {H : Type} : Lit × DataW H → Nat
  | (.string bytes, d) => bytes.length + uptoBulk d + 1
  | (_, d) => uptoBulk d + 1
 end
def uptoSmall : (H : Type) → List (DataW H) → Bool := fun _ ds => decide (uptoBulkAll ds ≤ 1048576)
def OpenSpec.upto (s : _root_.Go.ChangeSpec) : _root_.Go.OpenSpec := { _root_.Go.OpenSpec.ofChange s with cond := some uptoSmall }

/-- 'laws.FnExactSurdTimes', WHERE WHAT IT READS IS OF BULK AT MOST 1048576: true; the input reads as it did. -/
def fnExactSurdTimesUptoRow : OpenClaim := { program := "ythhdmokocddeiaa", sum := "3e039819296a0ebdaf45d352aba52d89a1738b88ba175a500d3a7526cee12b95", func := "loop.example/turningwheels/laws.FnExactSurdTimes", spec := "fnExactSurdTimes", apart := false, narrowed := true }
def FnExactSurdTimesUptoSaid : Prop := fnExactSurdTimesUptoRow.holds Try.pinned (OpenSpec.upto fnExactSurdTimesSpec)

/-- 'laws.FnSwing', WHERE WHAT IT READS IS OF BULK AT MOST 1048576: true; the input reads as it did. -/
def fnSwingUptoRow : OpenClaim := { program := "ythhdmokocddeiaa", sum := "3e039819296a0ebdaf45d352aba52d89a1738b88ba175a500d3a7526cee12b95", func := "loop.example/turningwheels/laws.FnSwing", spec := "fnSwing", apart := false, narrowed := true }
def FnSwingUptoSaid : Prop := fnSwingUptoRow.holds Try.pinned (OpenSpec.upto fnSwingSpec)

/-- 'laws.FnSwingAt', WHERE WHAT IT READS IS OF BULK AT MOST 1048576: true; the input reads as it did. -/
def fnSwingAtUptoRow : OpenClaim := { program := "ythhdmokocddeiaa", sum := "3e039819296a0ebdaf45d352aba52d89a1738b88ba175a500d3a7526cee12b95", func := "loop.example/turningwheels/laws.FnSwingAt", spec := "fnSwingAt", apart := false, narrowed := true }
def FnSwingAtUptoSaid : Prop := fnSwingAtUptoRow.holds Try.pinned (OpenSpec.upto fnSwingAtSpec)

/-- 'laws.FnSwingSum', WHERE WHAT IT READS IS OF BULK AT MOST 1048576: true; the input reads as it did. -/
def fnSwingSumUptoRow : OpenClaim := { program := "ythhdmokocddeiaa", sum := "3e039819296a0ebdaf45d352aba52d89a1738b88ba175a500d3a7526cee12b95", func := "loop.example/turningwheels/laws.FnSwingSum", spec := "fnSwingSum", apart := false, narrowed := true }
def FnSwingSumUptoSaid : Prop := fnSwingSumUptoRow.holds Try.pinned (OpenSpec.upto fnSwingSumSpec)

/-- 'laws.FnRest', WHERE WHAT IT READS IS OF BULK AT MOST 1048576: true; the input reads as it did. -/
def fnRestUptoRow : OpenClaim := { program := "ythhdmokocddeiaa", sum := "3e039819296a0ebdaf45d352aba52d89a1738b88ba175a500d3a7526cee12b95", func := "loop.example/turningwheels/laws.FnRest", spec := "fnRest", unfollowed := true, recurses := true, apart := false, narrowed := true }
def FnRestUptoSaid : Prop := fnRestUptoRow.holds Try.pinned (OpenSpec.upto fnRestSpec)

/-- 'laws.FnSmall', WHERE WHAT IT READS IS OF BULK AT MOST 1048576: true; the input reads as it did. -/
def fnSmallUptoRow : OpenClaim := { program := "ythhdmokocddeiaa", sum := "3e039819296a0ebdaf45d352aba52d89a1738b88ba175a500d3a7526cee12b95", func := "loop.example/turningwheels/laws.FnSmall", spec := "fnSmall", unfollowed := true, recurses := true, apart := false, narrowed := true }
def FnSmallUptoSaid : Prop := fnSmallUptoRow.holds Try.pinned (OpenSpec.upto fnSmallSpec)

/-- 'laws.FnSwingPath', WHERE WHAT IT READS IS OF BULK AT MOST 1048576: true; the input reads as it did. -/
def fnSwingPathUptoRow : OpenClaim := { program := "ythhdmokocddeiaa", sum := "3e039819296a0ebdaf45d352aba52d89a1738b88ba175a500d3a7526cee12b95", func := "loop.example/turningwheels/laws.FnSwingPath", spec := "fnSwingPath", unfollowed := true, recurses := true, apart := false, narrowed := true }
def FnSwingPathUptoSaid : Prop := fnSwingPathUptoRow.holds Try.pinned (OpenSpec.upto fnSwingPathSpec)

end Rows
end Go.Proofs.Ythhdmokocddeiaa
