/-
  No cell of these rows narrows 'for every input' (looked for: loops, veiled, ifaces, maps, wideKeys, modest, calm, conditions, laid).
  DERIVED. THE GIVEN ROWS OF THIS SEAT. 11 by the template 'for every input the law returns true; each argument reads behind the call as it read before'; 0 by the template 'total and deterministic' (their statements: YtelgbmebjickeaaTotals.lean).
  GIVEN WITH THE SEED: the statements are not yours to turn. If you find one false, say at which input.
  Laid BY PROGRAM, IN A SANDBOX (cutbox-rows.mjs): the forced cells as the released guide's own fill.sh prints them over the translation 3580bed597979f2d… (all of the seat's roots in one cut). By AI agents, Wed Nov 11 2026. No macro, syntax, notation, axiom, sorry.
-/
import Derived.Test.YtelgbmebjickeaaChecked
import GoSem.Claim
import GoSem.ClaimJoined
import GoSem.ClaimMapViews
import Derived.JoinedTies
import Derived.KernelRfl
namespace Go.Proofs.Ytelgbmebjickeaa
/- THE CELL 'sum', in the pinned program and in every row, IS THE sha256 OF THE DUMP (.gsa) THAT YtelgbmebjickeaaProg.lean LOADS. Nothing in Lean hashes anything: it is a label: what it is worth is what the hold of that sum in a sandbox is worth. -/
noncomputable def Try.pinned : Pinned := { name := "ytelgbmebjickeaa", sum := "3580bed597979f2dac77504f69a33595008df882716dc846e71fde52cdaeab58", checked := Try.checked }
namespace Rows
def none {H : Type} : Left H := { results := [], args := [] }

/-- 'laws.FnExactRowTimes': WHATEVER THE INPUT: true; the input reads as it did. -/
def fnExactRowTimesSpec : ChangeSpec := { name := "fnExactRowTimes", fn := fun _ => fun
  | [d1, d2] => { results := [.lit (.bool true)], args := [d1, d2] }
  | _ => none }
def fnExactRowTimesRow : OpenClaim := { program := "ytelgbmebjickeaa", sum := "3580bed597979f2dac77504f69a33595008df882716dc846e71fde52cdaeab58", func := "loop.example/turningwheels/laws.FnExactRowTimes", spec := "fnExactRowTimes", unfollowed := true, recurses := true, apart := false }
def FnExactRowTimesSaid : Prop := fnExactRowTimesRow.holds Try.pinned (OpenSpec.ofChange fnExactRowTimesSpec)

/-- ITS FALSE NEIGHBOUR: 'it returns false'. Refute it at one input. -/
def fnExactRowTimesWrong : ChangeSpec := { name := "fnExactRowTimes", fn := fun _ => fun
  | [d1, d2] => { results := [.lit (.bool false)], args := [d1, d2] }
  | _ => none }
def FnExactRowTimesWrongFalsely : Prop := fnExactRowTimesRow.holds Try.pinned (OpenSpec.ofChange fnExactRowTimesWrong)

/-- 'laws.FnExactTransformBack': WHATEVER THE INPUT: true; the input reads as it did. -/
def fnExactTransformBackSpec : ChangeSpec := { name := "fnExactTransformBack", fn := fun _ => fun
  | [d] => { results := [.lit (.bool true)], args := [d] }
  | _ => none }
def fnExactTransformBackRow : OpenClaim := { program := "ytelgbmebjickeaa", sum := "3580bed597979f2dac77504f69a33595008df882716dc846e71fde52cdaeab58", func := "loop.example/turningwheels/laws.FnExactTransformBack", spec := "fnExactTransformBack", unfollowed := true, recurses := true, apart := false }
def FnExactTransformBackSaid : Prop := fnExactTransformBackRow.holds Try.pinned (OpenSpec.ofChange fnExactTransformBackSpec)

/-- ITS FALSE NEIGHBOUR: 'it returns false'. Refute it at one input. -/
def fnExactTransformBackWrong : ChangeSpec := { name := "fnExactTransformBack", fn := fun _ => fun
  | [d] => { results := [.lit (.bool false)], args := [d] }
  | _ => none }
def FnExactTransformBackWrongFalsely : Prop := fnExactTransformBackRow.holds Try.pinned (OpenSpec.ofChange fnExactTransformBackWrong)

/-- 'laws.FnExactTransformOf': WHATEVER THE INPUT: true; the input reads as it did. -/
def fnExactTransformOfSpec : ChangeSpec := { name := "fnExactTransformOf", fn := fun _ => fun
  | [d] => { results := [.lit (.bool true)], args := [d] }
  | _ => none }
def fnExactTransformOfRow : OpenClaim := { program := "ytelgbmebjickeaa", sum := "3580bed597979f2dac77504f69a33595008df882716dc846e71fde52cdaeab58", func := "loop.example/turningwheels/laws.FnExactTransformOf", spec := "fnExactTransformOf", unfollowed := true, recurses := true, apart := false }
def FnExactTransformOfSaid : Prop := fnExactTransformOfRow.holds Try.pinned (OpenSpec.ofChange fnExactTransformOfSpec)

/-- ITS FALSE NEIGHBOUR: 'it returns false'. Refute it at one input. -/
def fnExactTransformOfWrong : ChangeSpec := { name := "fnExactTransformOf", fn := fun _ => fun
  | [d] => { results := [.lit (.bool false)], args := [d] }
  | _ => none }
def FnExactTransformOfWrongFalsely : Prop := fnExactTransformOfRow.holds Try.pinned (OpenSpec.ofChange fnExactTransformOfWrong)

/-- 'laws.FnRowTimes': WHATEVER THE INPUT: true; the input reads as it did. -/
def fnRowTimesSpec : ChangeSpec := { name := "fnRowTimes", fn := fun _ => fun
  | [d] => { results := [.lit (.bool true)], args := [d] }
  | _ => none }
def fnRowTimesRow : OpenClaim := { program := "ytelgbmebjickeaa", sum := "3580bed597979f2dac77504f69a33595008df882716dc846e71fde52cdaeab58", func := "loop.example/turningwheels/laws.FnRowTimes", spec := "fnRowTimes", unfollowed := true, recurses := true, apart := false }
def FnRowTimesSaid : Prop := fnRowTimesRow.holds Try.pinned (OpenSpec.ofChange fnRowTimesSpec)

/-- ITS FALSE NEIGHBOUR: 'it returns false'. Refute it at one input. -/
def fnRowTimesWrong : ChangeSpec := { name := "fnRowTimes", fn := fun _ => fun
  | [d] => { results := [.lit (.bool false)], args := [d] }
  | _ => none }
def FnRowTimesWrongFalsely : Prop := fnRowTimesRow.holds Try.pinned (OpenSpec.ofChange fnRowTimesWrong)

/-- 'laws.FnShift': WHATEVER THE INPUT: true; the input reads as it did. -/
def fnShiftSpec : ChangeSpec := { name := "fnShift", fn := fun _ => fun
  | [d] => { results := [.lit (.bool true)], args := [d] }
  | _ => none }
def fnShiftRow : OpenClaim := { program := "ytelgbmebjickeaa", sum := "3580bed597979f2dac77504f69a33595008df882716dc846e71fde52cdaeab58", func := "loop.example/turningwheels/laws.FnShift", spec := "fnShift", unfollowed := true, recurses := true, apart := false }
def FnShiftSaid : Prop := fnShiftRow.holds Try.pinned (OpenSpec.ofChange fnShiftSpec)

/-- ITS FALSE NEIGHBOUR: 'it returns false'. Refute it at one input. -/
def fnShiftWrong : ChangeSpec := { name := "fnShift", fn := fun _ => fun
  | [d] => { results := [.lit (.bool false)], args := [d] }
  | _ => none }
def FnShiftWrongFalsely : Prop := fnShiftRow.holds Try.pinned (OpenSpec.ofChange fnShiftWrong)

/-- 'laws.FnExactRowCircular': WHATEVER THE INPUT: true; the input reads as it did. -/
def fnExactRowCircularSpec : ChangeSpec := { name := "fnExactRowCircular", fn := fun _ => fun
  | [d1, d2] => { results := [.lit (.bool true)], args := [d1, d2] }
  | _ => none }
def fnExactRowCircularRow : OpenClaim := { program := "ytelgbmebjickeaa", sum := "3580bed597979f2dac77504f69a33595008df882716dc846e71fde52cdaeab58", func := "loop.example/turningwheels/laws.FnExactRowCircular", spec := "fnExactRowCircular", unfollowed := true, recurses := true, apart := false }
def FnExactRowCircularSaid : Prop := fnExactRowCircularRow.holds Try.pinned (OpenSpec.ofChange fnExactRowCircularSpec)

/-- ITS FALSE NEIGHBOUR: 'it returns false'. Refute it at one input. -/
def fnExactRowCircularWrong : ChangeSpec := { name := "fnExactRowCircular", fn := fun _ => fun
  | [d1, d2] => { results := [.lit (.bool false)], args := [d1, d2] }
  | _ => none }
def FnExactRowCircularWrongFalsely : Prop := fnExactRowCircularRow.holds Try.pinned (OpenSpec.ofChange fnExactRowCircularWrong)

/-- 'laws.FnTransform': WHATEVER THE INPUT: true; the input reads as it did. -/
def fnTransformSpec : ChangeSpec := { name := "fnTransform", fn := fun _ => fun
  | [d] => { results := [.lit (.bool true)], args := [d] }
  | _ => none }
def fnTransformRow : OpenClaim := { program := "ytelgbmebjickeaa", sum := "3580bed597979f2dac77504f69a33595008df882716dc846e71fde52cdaeab58", func := "loop.example/turningwheels/laws.FnTransform", spec := "fnTransform", unfollowed := true, recurses := true, apart := false }
def FnTransformSaid : Prop := fnTransformRow.holds Try.pinned (OpenSpec.ofChange fnTransformSpec)

/-- ITS FALSE NEIGHBOUR: 'it returns false'. Refute it at one input. -/
def fnTransformWrong : ChangeSpec := { name := "fnTransform", fn := fun _ => fun
  | [d] => { results := [.lit (.bool false)], args := [d] }
  | _ => none }
def FnTransformWrongFalsely : Prop := fnTransformRow.holds Try.pinned (OpenSpec.ofChange fnTransformWrong)

/-- 'laws.FnTransformBack': WHATEVER THE INPUT: true; the input reads as it did. -/
def fnTransformBackSpec : ChangeSpec := { name := "fnTransformBack", fn := fun _ => fun
  | [d] => { results := [.lit (.bool true)], args := [d] }
  | _ => none }
def fnTransformBackRow : OpenClaim := { program := "ytelgbmebjickeaa", sum := "3580bed597979f2dac77504f69a33595008df882716dc846e71fde52cdaeab58", func := "loop.example/turningwheels/laws.FnTransformBack", spec := "fnTransformBack", unfollowed := true, recurses := true, apart := false }
def FnTransformBackSaid : Prop := fnTransformBackRow.holds Try.pinned (OpenSpec.ofChange fnTransformBackSpec)

/-- ITS FALSE NEIGHBOUR: 'it returns false'. Refute it at one input. -/
def fnTransformBackWrong : ChangeSpec := { name := "fnTransformBack", fn := fun _ => fun
  | [d] => { results := [.lit (.bool false)], args := [d] }
  | _ => none }
def FnTransformBackWrongFalsely : Prop := fnTransformBackRow.holds Try.pinned (OpenSpec.ofChange fnTransformBackWrong)

/-- 'laws.FnCircular': WHATEVER THE INPUT: true; the input reads as it did. -/
def fnCircularSpec : ChangeSpec := { name := "fnCircular", fn := fun _ => fun
  | [d] => { results := [.lit (.bool true)], args := [d] }
  | _ => none }
def fnCircularRow : OpenClaim := { program := "ytelgbmebjickeaa", sum := "3580bed597979f2dac77504f69a33595008df882716dc846e71fde52cdaeab58", func := "loop.example/turningwheels/laws.FnCircular", spec := "fnCircular", unfollowed := true, recurses := true, apart := false }
def FnCircularSaid : Prop := fnCircularRow.holds Try.pinned (OpenSpec.ofChange fnCircularSpec)

/-- ITS FALSE NEIGHBOUR: 'it returns false'. Refute it at one input. -/
def fnCircularWrong : ChangeSpec := { name := "fnCircular", fn := fun _ => fun
  | [d] => { results := [.lit (.bool false)], args := [d] }
  | _ => none }
def FnCircularWrongFalsely : Prop := fnCircularRow.holds Try.pinned (OpenSpec.ofChange fnCircularWrong)

/-- 'laws.FnExactRowSquares': WHATEVER THE INPUT: true; the input reads as it did. -/
def fnExactRowSquaresSpec : ChangeSpec := { name := "fnExactRowSquares", fn := fun _ => fun
  | [d] => { results := [.lit (.bool true)], args := [d] }
  | _ => none }
def fnExactRowSquaresRow : OpenClaim := { program := "ytelgbmebjickeaa", sum := "3580bed597979f2dac77504f69a33595008df882716dc846e71fde52cdaeab58", func := "loop.example/turningwheels/laws.FnExactRowSquares", spec := "fnExactRowSquares", unfollowed := true, recurses := true, apart := false }
def FnExactRowSquaresSaid : Prop := fnExactRowSquaresRow.holds Try.pinned (OpenSpec.ofChange fnExactRowSquaresSpec)

/-- ITS FALSE NEIGHBOUR: 'it returns false'. Refute it at one input. -/
def fnExactRowSquaresWrong : ChangeSpec := { name := "fnExactRowSquares", fn := fun _ => fun
  | [d] => { results := [.lit (.bool false)], args := [d] }
  | _ => none }
def FnExactRowSquaresWrongFalsely : Prop := fnExactRowSquaresRow.holds Try.pinned (OpenSpec.ofChange fnExactRowSquaresWrong)

/-- 'laws.FnParseval': WHATEVER THE INPUT: true; the input reads as it did. -/
def fnParsevalSpec : ChangeSpec := { name := "fnParseval", fn := fun _ => fun
  | [d] => { results := [.lit (.bool true)], args := [d] }
  | _ => none }
def fnParsevalRow : OpenClaim := { program := "ytelgbmebjickeaa", sum := "3580bed597979f2dac77504f69a33595008df882716dc846e71fde52cdaeab58", func := "loop.example/turningwheels/laws.FnParseval", spec := "fnParseval", unfollowed := true, recurses := true, apart := false }
def FnParsevalSaid : Prop := fnParsevalRow.holds Try.pinned (OpenSpec.ofChange fnParsevalSpec)

/-- ITS FALSE NEIGHBOUR: 'it returns false'. Refute it at one input. -/
def fnParsevalWrong : ChangeSpec := { name := "fnParseval", fn := fun _ => fun
  | [d] => { results := [.lit (.bool false)], args := [d] }
  | _ => none }
def FnParsevalWrongFalsely : Prop := fnParsevalRow.holds Try.pinned (OpenSpec.ofChange fnParsevalWrong)

/- THE SECOND FORM. 'bulk': how many values and letters a reading holds, each counted each time it is reached (what is shared counts as often as it is met; a slice's spare places count too). A statement '..UptoSaid' is the law's where the arguments, and the package variables that the reading takes, are together of bulk at most 1048576: NARROWER than '..Said'. Prove '..Said' where nothing that the law and all that it calls make is longer than what came in: it says more and counts as full. Else prove '..UptoSaid'. A law counts once. -/
mutual
def uptoBulk {H : Type} : DataW H → Nat
  | .lit (.string bytes) => bytes.length + 1
  | .lit _ => 1
  | .nil => 1
  | .ptr d => uptoBulk d + 1
  | .slice elems spare => uptoBulkAll elems + uptoBulkAll spare + 1
  | .agg parts => uptoBulkAll parts + 1
  | .iface _ d => uptoBulk d + 1
  | .map entries => uptoBulkEntries entries + 1
  | .held _ => 1
def uptoBulkAll {H : Type} : List (DataW H) → Nat
  | [] => 0
  | d :: r => uptoBulk d + uptoBulkAll r
def uptoBulkEntries {H : Type} : List (Lit × DataW H) → Nat
  | [] => 0
  | x :: r => uptoBulkEntry x + uptoBulkEntries r
def uptoBulkEntry {H : Type} : Lit × DataW H → Nat
  | (.string bytes, d) => bytes.length + uptoBulk d + 1
  | (_, d) => uptoBulk d + 1
 end
def uptoSmall : (H : Type) → List (DataW H) → Bool := fun _ ds => decide (uptoBulkAll ds ≤ 1048576)
def OpenSpec.upto (s : _root_.Go.ChangeSpec) : _root_.Go.OpenSpec := { _root_.Go.OpenSpec.ofChange s with cond := some uptoSmall }

/-- 'laws.FnExactRowTimes', WHERE WHAT IT READS IS OF BULK AT MOST 1048576: true; the input reads as it did. -/
def fnExactRowTimesUptoRow : OpenClaim := { program := "ytelgbmebjickeaa", sum := "3580bed597979f2dac77504f69a33595008df882716dc846e71fde52cdaeab58", func := "loop.example/turningwheels/laws.FnExactRowTimes", spec := "fnExactRowTimes", unfollowed := true, recurses := true, apart := false, narrowed := true }
def FnExactRowTimesUptoSaid : Prop := fnExactRowTimesUptoRow.holds Try.pinned (OpenSpec.upto fnExactRowTimesSpec)

/-- 'laws.FnExactTransformBack', WHERE WHAT IT READS IS OF BULK AT MOST 1048576: true; the input reads as it did. -/
def fnExactTransformBackUptoRow : OpenClaim := { program := "ytelgbmebjickeaa", sum := "3580bed597979f2dac77504f69a33595008df882716dc846e71fde52cdaeab58", func := "loop.example/turningwheels/laws.FnExactTransformBack", spec := "fnExactTransformBack", unfollowed := true, recurses := true, apart := false, narrowed := true }
def FnExactTransformBackUptoSaid : Prop := fnExactTransformBackUptoRow.holds Try.pinned (OpenSpec.upto fnExactTransformBackSpec)

/-- 'laws.FnExactTransformOf', WHERE WHAT IT READS IS OF BULK AT MOST 1048576: true; the input reads as it did. -/
def fnExactTransformOfUptoRow : OpenClaim := { program := "ytelgbmebjickeaa", sum := "3580bed597979f2dac77504f69a33595008df882716dc846e71fde52cdaeab58", func := "loop.example/turningwheels/laws.FnExactTransformOf", spec := "fnExactTransformOf", unfollowed := true, recurses := true, apart := false, narrowed := true }
def FnExactTransformOfUptoSaid : Prop := fnExactTransformOfUptoRow.holds Try.pinned (OpenSpec.upto fnExactTransformOfSpec)

/-- 'laws.FnRowTimes', WHERE WHAT IT READS IS OF BULK AT MOST 1048576: true; the input reads as it did. -/
def fnRowTimesUptoRow : OpenClaim := { program := "ytelgbmebjickeaa", sum := "3580bed597979f2dac77504f69a33595008df882716dc846e71fde52cdaeab58", func := "loop.example/turningwheels/laws.FnRowTimes", spec := "fnRowTimes", unfollowed := true, recurses := true, apart := false, narrowed := true }
def FnRowTimesUptoSaid : Prop := fnRowTimesUptoRow.holds Try.pinned (OpenSpec.upto fnRowTimesSpec)

/-- 'laws.FnShift', WHERE WHAT IT READS IS OF BULK AT MOST 1048576: true; the input reads as it did. -/
def fnShiftUptoRow : OpenClaim := { program := "ytelgbmebjickeaa", sum := "3580bed597979f2dac77504f69a33595008df882716dc846e71fde52cdaeab58", func := "loop.example/turningwheels/laws.FnShift", spec := "fnShift", unfollowed := true, recurses := true, apart := false, narrowed := true }
def FnShiftUptoSaid : Prop := fnShiftUptoRow.holds Try.pinned (OpenSpec.upto fnShiftSpec)

/-- 'laws.FnExactRowCircular', WHERE WHAT IT READS IS OF BULK AT MOST 1048576: true; the input reads as it did. -/
def fnExactRowCircularUptoRow : OpenClaim := { program := "ytelgbmebjickeaa", sum := "3580bed597979f2dac77504f69a33595008df882716dc846e71fde52cdaeab58", func := "loop.example/turningwheels/laws.FnExactRowCircular", spec := "fnExactRowCircular", unfollowed := true, recurses := true, apart := false, narrowed := true }
def FnExactRowCircularUptoSaid : Prop := fnExactRowCircularUptoRow.holds Try.pinned (OpenSpec.upto fnExactRowCircularSpec)

/-- 'laws.FnTransform', WHERE WHAT IT READS IS OF BULK AT MOST 1048576: true; the input reads as it did. -/
def fnTransformUptoRow : OpenClaim := { program := "ytelgbmebjickeaa", sum := "3580bed597979f2dac77504f69a33595008df882716dc846e71fde52cdaeab58", func := "loop.example/turningwheels/laws.FnTransform", spec := "fnTransform", unfollowed := true, recurses := true, apart := false, narrowed := true }
def FnTransformUptoSaid : Prop := fnTransformUptoRow.holds Try.pinned (OpenSpec.upto fnTransformSpec)

/-- 'laws.FnTransformBack', WHERE WHAT IT READS IS OF BULK AT MOST 1048576: true; the input reads as it did. -/
def fnTransformBackUptoRow : OpenClaim := { program := "ytelgbmebjickeaa", sum := "3580bed597979f2dac77504f69a33595008df882716dc846e71fde52cdaeab58", func := "loop.example/turningwheels/laws.FnTransformBack", spec := "fnTransformBack", unfollowed := true, recurses := true, apart := false, narrowed := true }
def FnTransformBackUptoSaid : Prop := fnTransformBackUptoRow.holds Try.pinned (OpenSpec.upto fnTransformBackSpec)

/-- 'laws.FnCircular', WHERE WHAT IT READS IS OF BULK AT MOST 1048576: true; the input reads as it did. -/
def fnCircularUptoRow : OpenClaim := { program := "ytelgbmebjickeaa", sum := "3580bed597979f2dac77504f69a33595008df882716dc846e71fde52cdaeab58", func := "loop.example/turningwheels/laws.FnCircular", spec := "fnCircular", unfollowed := true, recurses := true, apart := false, narrowed := true }
def FnCircularUptoSaid : Prop := fnCircularUptoRow.holds Try.pinned (OpenSpec.upto fnCircularSpec)

/-- 'laws.FnExactRowSquares', WHERE WHAT IT READS IS OF BULK AT MOST 1048576: true; the input reads as it did. -/
def fnExactRowSquaresUptoRow : OpenClaim := { program := "ytelgbmebjickeaa", sum := "3580bed597979f2dac77504f69a33595008df882716dc846e71fde52cdaeab58", func := "loop.example/turningwheels/laws.FnExactRowSquares", spec := "fnExactRowSquares", unfollowed := true, recurses := true, apart := false, narrowed := true }
def FnExactRowSquaresUptoSaid : Prop := fnExactRowSquaresUptoRow.holds Try.pinned (OpenSpec.upto fnExactRowSquaresSpec)

/-- 'laws.FnParseval', WHERE WHAT IT READS IS OF BULK AT MOST 1048576: true; the input reads as it did. -/
def fnParsevalUptoRow : OpenClaim := { program := "ytelgbmebjickeaa", sum := "3580bed597979f2dac77504f69a33595008df882716dc846e71fde52cdaeab58", func := "loop.example/turningwheels/laws.FnParseval", spec := "fnParseval", unfollowed := true, recurses := true, apart := false, narrowed := true }
def FnParsevalUptoSaid : Prop := fnParsevalUptoRow.holds Try.pinned (OpenSpec.upto fnParsevalSpec)

end Rows
end Go.Proofs.Ytelgbmebjickeaa
