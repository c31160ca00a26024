/-
  No cell of these rows narrows 'for every input' (looked for: loops, veiled, ifaces, maps, wideKeys, modest, calm, conditions, laid).
  DERIVED. THE GIVEN ROWS OF THIS SEAT. 11 by the template 'for every input the law returns true; each argument reads behind the call as it read before'; 0 by the template 'total and deterministic' (their statements: YtklmlodapinflaaTotals.lean).
  GIVEN WITH THE SEED: the statements are not yours to turn. If you find one false, say at which input.
  Laid BY PROGRAM, IN A SANDBOX (cutbox-rows.mjs): the forced cells as the released guide's own fill.sh prints them over the translation 60b8b93bd95a8937… (all of the seat's roots in one cut). By AI agents, Wed Nov 11 2026. No macro, syntax, notation, axiom, sorry.
-/
import Derived.Test.YtklmlodapinflaaChecked
import GoSem.Claim
import GoSem.ClaimJoined
import GoSem.ClaimMapViews
import Derived.JoinedTies
import Derived.KernelRfl
namespace Go.Proofs.Ytklmlodapinflaa
/- THE CELL 'sum', in the pinned program and in every row, IS THE sha256 OF THE DUMP (.gsa) THAT YtklmlodapinflaaProg.lean LOADS. Nothing in Lean hashes anything: it is a label: what it is worth is what the hold of that sum in a sandbox is worth. -/
noncomputable def Try.pinned : Pinned := { name := "ytklmlodapinflaa", sum := "60b8b93bd95a8937202490c336ec39d74a63c4f6925627b9562af78324bd23e3", checked := Try.checked }
namespace Rows
def none {H : Type} : Left H := { results := [], args := [] }

/-- 'laws.FnIm': WHATEVER THE INPUT: true; the input reads as it did. -/
def fnImSpec : ChangeSpec := { name := "fnIm", fn := fun _ => fun
  | [d] => { results := [.lit (.bool true)], args := [d] }
  | _ => none }
def fnImRow : OpenClaim := { program := "ytklmlodapinflaa", sum := "60b8b93bd95a8937202490c336ec39d74a63c4f6925627b9562af78324bd23e3", func := "loop.example/turningwheels/laws.FnIm", spec := "fnIm", recurses := true, apart := false }
def FnImSaid : Prop := fnImRow.holds Try.pinned (OpenSpec.ofChange fnImSpec)

/-- ITS FALSE NEIGHBOUR: 'it returns false'. Refute it at one input. -/
def fnImWrong : ChangeSpec := { name := "fnIm", fn := fun _ => fun
  | [d] => { results := [.lit (.bool false)], args := [d] }
  | _ => none }
def FnImWrongFalsely : Prop := fnImRow.holds Try.pinned (OpenSpec.ofChange fnImWrong)

/-- 'laws.FnExactPolyCross': WHATEVER THE INPUT: true; the input reads as it did. -/
def fnExactPolyCrossSpec : ChangeSpec := { name := "fnExactPolyCross", fn := fun _ => fun
  | [d1, d2] => { results := [.lit (.bool true)], args := [d1, d2] }
  | _ => none }
def fnExactPolyCrossRow : OpenClaim := { program := "ytklmlodapinflaa", sum := "60b8b93bd95a8937202490c336ec39d74a63c4f6925627b9562af78324bd23e3", func := "loop.example/turningwheels/laws.FnExactPolyCross", spec := "fnExactPolyCross", recurses := true, apart := false }
def FnExactPolyCrossSaid : Prop := fnExactPolyCrossRow.holds Try.pinned (OpenSpec.ofChange fnExactPolyCrossSpec)

/-- ITS FALSE NEIGHBOUR: 'it returns false'. Refute it at one input. -/
def fnExactPolyCrossWrong : ChangeSpec := { name := "fnExactPolyCross", fn := fun _ => fun
  | [d1, d2] => { results := [.lit (.bool false)], args := [d1, d2] }
  | _ => none }
def FnExactPolyCrossWrongFalsely : Prop := fnExactPolyCrossRow.holds Try.pinned (OpenSpec.ofChange fnExactPolyCrossWrong)

/-- 'laws.FnCross': WHATEVER THE INPUT: true; the input reads as it did. -/
def fnCrossSpec : ChangeSpec := { name := "fnCross", fn := fun _ => fun
  | [d] => { results := [.lit (.bool true)], args := [d] }
  | _ => none }
def fnCrossRow : OpenClaim := { program := "ytklmlodapinflaa", sum := "60b8b93bd95a8937202490c336ec39d74a63c4f6925627b9562af78324bd23e3", func := "loop.example/turningwheels/laws.FnCross", spec := "fnCross", recurses := true, apart := false }
def FnCrossSaid : Prop := fnCrossRow.holds Try.pinned (OpenSpec.ofChange fnCrossSpec)

/-- ITS FALSE NEIGHBOUR: 'it returns false'. Refute it at one input. -/
def fnCrossWrong : ChangeSpec := { name := "fnCross", fn := fun _ => fun
  | [d] => { results := [.lit (.bool false)], args := [d] }
  | _ => none }
def FnCrossWrongFalsely : Prop := fnCrossRow.holds Try.pinned (OpenSpec.ofChange fnCrossWrong)

/-- 'laws.FnRe': WHATEVER THE INPUT: true; the input reads as it did. -/
def fnReSpec : ChangeSpec := { name := "fnRe", fn := fun _ => fun
  | [d] => { results := [.lit (.bool true)], args := [d] }
  | _ => none }
def fnReRow : OpenClaim := { program := "ytklmlodapinflaa", sum := "60b8b93bd95a8937202490c336ec39d74a63c4f6925627b9562af78324bd23e3", func := "loop.example/turningwheels/laws.FnRe", spec := "fnRe", recurses := true, apart := false }
def FnReSaid : Prop := fnReRow.holds Try.pinned (OpenSpec.ofChange fnReSpec)

/-- ITS FALSE NEIGHBOUR: 'it returns false'. Refute it at one input. -/
def fnReWrong : ChangeSpec := { name := "fnRe", fn := fun _ => fun
  | [d] => { results := [.lit (.bool false)], args := [d] }
  | _ => none }
def FnReWrongFalsely : Prop := fnReRow.holds Try.pinned (OpenSpec.ofChange fnReWrong)

/-- 'laws.FnExactSurdNorm': WHATEVER THE INPUT: true; the input reads as it did. -/
def fnExactSurdNormSpec : ChangeSpec := { name := "fnExactSurdNorm", fn := fun _ => fun
  | [d] => { results := [.lit (.bool true)], args := [d] }
  | _ => none }
def fnExactSurdNormRow : OpenClaim := { program := "ytklmlodapinflaa", sum := "60b8b93bd95a8937202490c336ec39d74a63c4f6925627b9562af78324bd23e3", func := "loop.example/turningwheels/laws.FnExactSurdNorm", spec := "fnExactSurdNorm", recurses := true, apart := false }
def FnExactSurdNormSaid : Prop := fnExactSurdNormRow.holds Try.pinned (OpenSpec.ofChange fnExactSurdNormSpec)

/-- ITS FALSE NEIGHBOUR: 'it returns false'. Refute it at one input. -/
def fnExactSurdNormWrong : ChangeSpec := { name := "fnExactSurdNorm", fn := fun _ => fun
  | [d] => { results := [.lit (.bool false)], args := [d] }
  | _ => none }
def FnExactSurdNormWrongFalsely : Prop := fnExactSurdNormRow.holds Try.pinned (OpenSpec.ofChange fnExactSurdNormWrong)

/-- 'laws.FnNorm': WHATEVER THE INPUT: true; the input reads as it did. -/
def fnNormSpec : ChangeSpec := { name := "fnNorm", fn := fun _ => fun
  | [d] => { results := [.lit (.bool true)], args := [d] }
  | _ => none }
def fnNormRow : OpenClaim := { program := "ytklmlodapinflaa", sum := "60b8b93bd95a8937202490c336ec39d74a63c4f6925627b9562af78324bd23e3", func := "loop.example/turningwheels/laws.FnNorm", spec := "fnNorm", recurses := true, apart := false }
def FnNormSaid : Prop := fnNormRow.holds Try.pinned (OpenSpec.ofChange fnNormSpec)

/-- ITS FALSE NEIGHBOUR: 'it returns false'. Refute it at one input. -/
def fnNormWrong : ChangeSpec := { name := "fnNorm", fn := fun _ => fun
  | [d] => { results := [.lit (.bool false)], args := [d] }
  | _ => none }
def FnNormWrongFalsely : Prop := fnNormRow.holds Try.pinned (OpenSpec.ofChange fnNormWrong)

/-- 'laws.FnExactPolyArea': WHATEVER THE INPUT: true; the input reads as it did. -/
def fnExactPolyAreaSpec : ChangeSpec := { name := "fnExactPolyArea", fn := fun _ => fun
  | [d] => { results := [.lit (.bool true)], args := [d] }
  | _ => none }
def fnExactPolyAreaRow : OpenClaim := { program := "ytklmlodapinflaa", sum := "60b8b93bd95a8937202490c336ec39d74a63c4f6925627b9562af78324bd23e3", func := "loop.example/turningwheels/laws.FnExactPolyArea", spec := "fnExactPolyArea", unfollowed := true, recurses := true, apart := false }
def FnExactPolyAreaSaid : Prop := fnExactPolyAreaRow.holds Try.pinned (OpenSpec.ofChange fnExactPolyAreaSpec)

/-- ITS FALSE NEIGHBOUR: 'it returns false'. Refute it at one input. -/
def fnExactPolyAreaWrong : ChangeSpec := { name := "fnExactPolyArea", fn := fun _ => fun
  | [d] => { results := [.lit (.bool false)], args := [d] }
  | _ => none }
def FnExactPolyAreaWrongFalsely : Prop := fnExactPolyAreaRow.holds Try.pinned (OpenSpec.ofChange fnExactPolyAreaWrong)

/-- 'laws.FnExactPolyOn': WHATEVER THE INPUT: true; the input reads as it did. -/
def fnExactPolyOnSpec : ChangeSpec := { name := "fnExactPolyOn", fn := fun _ => fun
  | [d1, d2] => { results := [.lit (.bool true)], args := [d1, d2] }
  | _ => none }
def fnExactPolyOnRow : OpenClaim := { program := "ytklmlodapinflaa", sum := "60b8b93bd95a8937202490c336ec39d74a63c4f6925627b9562af78324bd23e3", func := "loop.example/turningwheels/laws.FnExactPolyOn", spec := "fnExactPolyOn", unfollowed := true, recurses := true, apart := false }
def FnExactPolyOnSaid : Prop := fnExactPolyOnRow.holds Try.pinned (OpenSpec.ofChange fnExactPolyOnSpec)

/-- ITS FALSE NEIGHBOUR: 'it returns false'. Refute it at one input. -/
def fnExactPolyOnWrong : ChangeSpec := { name := "fnExactPolyOn", fn := fun _ => fun
  | [d1, d2] => { results := [.lit (.bool false)], args := [d1, d2] }
  | _ => none }
def FnExactPolyOnWrongFalsely : Prop := fnExactPolyOnRow.holds Try.pinned (OpenSpec.ofChange fnExactPolyOnWrong)

/-- 'laws.FnExactPolyWinding': WHATEVER THE INPUT: true; the input reads as it did. -/
def fnExactPolyWindingSpec : ChangeSpec := { name := "fnExactPolyWinding", fn := fun _ => fun
  | [d1, d2] => { results := [.lit (.bool true)], args := [d1, d2] }
  | _ => none }
def fnExactPolyWindingRow : OpenClaim := { program := "ytklmlodapinflaa", sum := "60b8b93bd95a8937202490c336ec39d74a63c4f6925627b9562af78324bd23e3", func := "loop.example/turningwheels/laws.FnExactPolyWinding", spec := "fnExactPolyWinding", unfollowed := true, recurses := true, apart := false }
def FnExactPolyWindingSaid : Prop := fnExactPolyWindingRow.holds Try.pinned (OpenSpec.ofChange fnExactPolyWindingSpec)

/-- ITS FALSE NEIGHBOUR: 'it returns false'. Refute it at one input. -/
def fnExactPolyWindingWrong : ChangeSpec := { name := "fnExactPolyWinding", fn := fun _ => fun
  | [d1, d2] => { results := [.lit (.bool false)], args := [d1, d2] }
  | _ => none }
def FnExactPolyWindingWrongFalsely : Prop := fnExactPolyWindingRow.holds Try.pinned (OpenSpec.ofChange fnExactPolyWindingWrong)

/-- 'laws.FnExactDesignAt': WHATEVER THE INPUT: true; the input reads as it did. -/
def fnExactDesignAtSpec : ChangeSpec := { name := "fnExactDesignAt", fn := fun _ => fun
  | [d1, d2] => { results := [.lit (.bool true)], args := [d1, d2] }
  | _ => none }
def fnExactDesignAtRow : OpenClaim := { program := "ytklmlodapinflaa", sum := "60b8b93bd95a8937202490c336ec39d74a63c4f6925627b9562af78324bd23e3", func := "loop.example/turningwheels/laws.FnExactDesignAt", spec := "fnExactDesignAt", unfollowed := true, recurses := true, apart := false }
def FnExactDesignAtSaid : Prop := fnExactDesignAtRow.holds Try.pinned (OpenSpec.ofChange fnExactDesignAtSpec)

/-- ITS FALSE NEIGHBOUR: 'it returns false'. Refute it at one input. -/
def fnExactDesignAtWrong : ChangeSpec := { name := "fnExactDesignAt", fn := fun _ => fun
  | [d1, d2] => { results := [.lit (.bool false)], args := [d1, d2] }
  | _ => none }
def FnExactDesignAtWrongFalsely : Prop := fnExactDesignAtRow.holds Try.pinned (OpenSpec.ofChange fnExactDesignAtWrong)

/-- 'laws.FnExactRowOf': WHATEVER THE INPUT: true; the input reads as it did. -/
def fnExactRowOfSpec : ChangeSpec := { name := "fnExactRowOf", fn := fun _ => fun
  | [d1, d2] => { results := [.lit (.bool true)], args := [d1, d2] }
  | _ => none }
def fnExactRowOfRow : OpenClaim := { program := "ytklmlodapinflaa", sum := "60b8b93bd95a8937202490c336ec39d74a63c4f6925627b9562af78324bd23e3", func := "loop.example/turningwheels/laws.FnExactRowOf", spec := "fnExactRowOf", unfollowed := true, recurses := true, apart := false }
def FnExactRowOfSaid : Prop := fnExactRowOfRow.holds Try.pinned (OpenSpec.ofChange fnExactRowOfSpec)

/-- ITS FALSE NEIGHBOUR: 'it returns false'. Refute it at one input. -/
def fnExactRowOfWrong : ChangeSpec := { name := "fnExactRowOf", fn := fun _ => fun
  | [d1, d2] => { results := [.lit (.bool false)], args := [d1, d2] }
  | _ => none }
def FnExactRowOfWrongFalsely : Prop := fnExactRowOfRow.holds Try.pinned (OpenSpec.ofChange fnExactRowOfWrong)

/- THE SECOND FORM. 'bulk': how many values and letters a reading holds, each counted each time it is reached (what is shared counts as often as it is met; a slice's spare places count too). A statement '..UptoSaid' is the law's where the arguments, and the package variables that the reading takes, are together of bulk at most 1048576: NARROWER than '..Said'. Prove '..Said' where nothing that the law and all that it calls make is longer than what came in: it says more and counts as full. Else prove '..UptoSaid'. A law counts once. -/
mutual
def uptoBulk {H : Type} : DataW H → Nat
  | .lit (.string bytes) => bytes.length + 1
  | .lit _ => 1
  | .nil => 1
  | .ptr d => uptoBulk d + 1
  | .slice elems spare => uptoBulkAll elems + uptoBulkAll spare + 1
  | .agg parts => uptoBulkAll parts + 1
  | .iface _ d => uptoBulk d + 1
  | .map entries => uptoBulkEntries entries + 1
  | .held _ => 1
def uptoBulkAll {H : Type} : List (DataW H) → Nat
  | [] => 0
  | d :: r => uptoBulk d + uptoBulkAll r
def uptoBulkEntries {H : Type} : List (Lit × DataW H) → Nat
  | [] => 0
  | x :: r => uptoBulkEntry x + uptoBulkEntries r
def uptoBulkEntry {H : Type} : Lit × DataW H → Nat
  | (.string bytes, d) => bytes.length + uptoBulk d + 1
  | (_, d) => uptoBulk d + 1
 end
def uptoSmall : (H : Type) → List (DataW H) → Bool := fun _ ds => decide (uptoBulkAll ds ≤ 1048576)
def OpenSpec.upto (s : _root_.Go.ChangeSpec) : _root_.Go.OpenSpec := { _root_.Go.OpenSpec.ofChange s with cond := some uptoSmall }

/-- 'laws.FnIm', WHERE WHAT IT READS IS OF BULK AT MOST 1048576: true; the input reads as it did. -/
def fnImUptoRow : OpenClaim := { program := "ytklmlodapinflaa", sum := "60b8b93bd95a8937202490c336ec39d74a63c4f6925627b9562af78324bd23e3", func := "loop.example/turningwheels/laws.FnIm", spec := "fnIm", recurses := true, apart := false, narrowed := true }
def FnImUptoSaid : Prop := fnImUptoRow.holds Try.pinned (OpenSpec.upto fnImSpec)

/-- 'laws.FnExactPolyCross', WHERE WHAT IT READS IS OF BULK AT MOST 1048576: true; the input reads as it did. -/
def fnExactPolyCrossUptoRow : OpenClaim := { program := "ytklmlodapinflaa", sum := "60b8b93bd95a8937202490c336ec39d74a63c4f6925627b9562af78324bd23e3", func := "loop.example/turningwheels/laws.FnExactPolyCross", spec := "fnExactPolyCross", recurses := true, apart := false, narrowed := true }
def FnExactPolyCrossUptoSaid : Prop := fnExactPolyCrossUptoRow.holds Try.pinned (OpenSpec.upto fnExactPolyCrossSpec)

/-- 'laws.FnCross', WHERE WHAT IT READS IS OF BULK AT MOST 1048576: true; the input reads as it did. -/
def fnCrossUptoRow : OpenClaim := { program := "ytklmlodapinflaa", sum := "60b8b93bd95a8937202490c336ec39d74a63c4f6925627b9562af78324bd23e3", func := "loop.example/turningwheels/laws.FnCross", spec := "fnCross", recurses := true, apart := false, narrowed := true }
def FnCrossUptoSaid : Prop := fnCrossUptoRow.holds Try.pinned (OpenSpec.upto fnCrossSpec)

/-- 'laws.FnRe', WHERE WHAT IT READS IS OF BULK AT MOST 1048576: true; the input reads as it did. -/
def fnReUptoRow : OpenClaim := { program := "ytklmlodapinflaa", sum := "60b8b93bd95a8937202490c336ec39d74a63c4f6925627b9562af78324bd23e3", func := "loop.example/turningwheels/laws.FnRe", spec := "fnRe", recurses := true, apart := false, narrowed := true }
def FnReUptoSaid : Prop := fnReUptoRow.holds Try.pinned (OpenSpec.upto fnReSpec)

/-- 'laws.FnExactSurdNorm', WHERE WHAT IT READS IS OF BULK AT MOST 1048576: true; the input reads as it did. -/
def fnExactSurdNormUptoRow : OpenClaim := { program := "ytklmlodapinflaa", sum := "60b8b93bd95a8937202490c336ec39d74a63c4f6925627b9562af78324bd23e3", func := "loop.example/turningwheels/laws.FnExactSurdNorm", spec := "fnExactSurdNorm", recurses := true, apart := false, narrowed := true }
def FnExactSurdNormUptoSaid : Prop := fnExactSurdNormUptoRow.holds Try.pinned (OpenSpec.upto fnExactSurdNormSpec)

/-- 'laws.FnNorm', WHERE WHAT IT READS IS OF BULK AT MOST 1048576: true; the input reads as it did. -/
def fnNormUptoRow : OpenClaim := { program := "ytklmlodapinflaa", sum := "60b8b93bd95a8937202490c336ec39d74a63c4f6925627b9562af78324bd23e3", func := "loop.example/turningwheels/laws.FnNorm", spec := "fnNorm", recurses := true, apart := false, narrowed := true }
def FnNormUptoSaid : Prop := fnNormUptoRow.holds Try.pinned (OpenSpec.upto fnNormSpec)

/-- 'laws.FnExactPolyArea', WHERE WHAT IT READS IS OF BULK AT MOST 1048576: true; the input reads as it did. -/
def fnExactPolyAreaUptoRow : OpenClaim := { program := "ytklmlodapinflaa", sum := "60b8b93bd95a8937202490c336ec39d74a63c4f6925627b9562af78324bd23e3", func := "loop.example/turningwheels/laws.FnExactPolyArea", spec := "fnExactPolyArea", unfollowed := true, recurses := true, apart := false, narrowed := true }
def FnExactPolyAreaUptoSaid : Prop := fnExactPolyAreaUptoRow.holds Try.pinned (OpenSpec.upto fnExactPolyAreaSpec)

/-- 'laws.FnExactPolyOn', WHERE WHAT IT READS IS OF BULK AT MOST 1048576: true; the input reads as it did. -/
def fnExactPolyOnUptoRow : OpenClaim := { program := "ytklmlodapinflaa", sum := "60b8b93bd95a8937202490c336ec39d74a63c4f6925627b9562af78324bd23e3", func := "loop.example/turningwheels/laws.FnExactPolyOn", spec := "fnExactPolyOn", unfollowed := true, recurses := true, apart := false, narrowed := true }
def FnExactPolyOnUptoSaid : Prop := fnExactPolyOnUptoRow.holds Try.pinned (OpenSpec.upto fnExactPolyOnSpec)

/-- 'laws.FnExactPolyWinding', WHERE WHAT IT READS IS OF BULK AT MOST 1048576: true; the input reads as it did. -/
def fnExactPolyWindingUptoRow : OpenClaim := { program := "ytklmlodapinflaa", sum := "60b8b93bd95a8937202490c336ec39d74a63c4f6925627b9562af78324bd23e3", func := "loop.example/turningwheels/laws.FnExactPolyWinding", spec := "fnExactPolyWinding", unfollowed := true, recurses := true, apart := false, narrowed := true }
def FnExactPolyWindingUptoSaid : Prop := fnExactPolyWindingUptoRow.holds Try.pinned (OpenSpec.upto fnExactPolyWindingSpec)

/-- 'laws.FnExactDesignAt', WHERE WHAT IT READS IS OF BULK AT MOST 1048576: true; the input reads as it did. -/
def fnExactDesignAtUptoRow : OpenClaim := { program := "ytklmlodapinflaa", sum := "60b8b93bd95a8937202490c336ec39d74a63c4f6925627b9562af78324bd23e3", func := "loop.example/turningwheels/laws.FnExactDesignAt", spec := "fnExactDesignAt", unfollowed := true, recurses := true, apart := false, narrowed := true }
def FnExactDesignAtUptoSaid : Prop := fnExactDesignAtUptoRow.holds Try.pinned (OpenSpec.upto fnExactDesignAtSpec)

/-- 'laws.FnExactRowOf', WHERE WHAT IT READS IS OF BULK AT MOST 1048576: true; the input reads as it did. -/
def fnExactRowOfUptoRow : OpenClaim := { program := "ytklmlodapinflaa", sum := "60b8b93bd95a8937202490c336ec39d74a63c4f6925627b9562af78324bd23e3", func := "loop.example/turningwheels/laws.FnExactRowOf", spec := "fnExactRowOf", unfollowed := true, recurses := true, apart := false, narrowed := true }
def FnExactRowOfUptoSaid : Prop := fnExactRowOfUptoRow.holds Try.pinned (OpenSpec.upto fnExactRowOfSpec)

end Rows
end Go.Proofs.Ytklmlodapinflaa
