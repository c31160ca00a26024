/-
  No cell of these rows narrows 'for every input' (looked for: loops, veiled, ifaces, maps, wideKeys, modest, calm, conditions, laid).
  DERIVED. THE GIVEN ROWS OF THIS SEAT. 12 by the template 'for every input the law returns true; each argument reads behind the call as it read before'; 0 by the template 'total and deterministic' (their statements: YtamfdilibgcakaaTotals.lean).
  GIVEN WITH THE SEED: the statements are not yours to turn. If you find one false, say at which input.
  Laid BY PROGRAM, IN A SANDBOX (cutbox-rows.mjs): the forced cells as the released guide's own fill.sh prints them over the translation 849e3cf73cabe32e… (all of the seat's roots in one cut). By AI agents, Wed Nov 11 2026. No macro, syntax, notation, axiom, sorry.
-/
import Derived.Test.YtamfdilibgcakaaChecked
import GoSem.Claim
import GoSem.ClaimJoined
import GoSem.ClaimMapViews
import Derived.JoinedTies
import Derived.KernelRfl
namespace Go.Proofs.Ytamfdilibgcakaa
/- THE CELL 'sum', in the pinned program and in every row, IS THE sha256 OF THE DUMP (.gsa) THAT YtamfdilibgcakaaProg.lean LOADS. Nothing in Lean hashes anything: it is a label: what it is worth is what the hold of that sum in a sandbox is worth. -/
noncomputable def Try.pinned : Pinned := { name := "ytamfdilibgcakaa", sum := "849e3cf73cabe32e732ff756db3914a281ba57f2436015e6274353862c16cb71", checked := Try.checked }
namespace Rows
def none {H : Type} : Left H := { results := [], args := [] }

/-- 'laws.FnExactCycReal': WHATEVER THE INPUT: true; the input reads as it did. -/
def fnExactCycRealSpec : ChangeSpec := { name := "fnExactCycReal", fn := fun _ => fun
  | [d] => { results := [.lit (.bool true)], args := [d] }
  | _ => none }
def fnExactCycRealRow : OpenClaim := { program := "ytamfdilibgcakaa", sum := "849e3cf73cabe32e732ff756db3914a281ba57f2436015e6274353862c16cb71", func := "loop.example/turningwheels/laws.FnExactCycReal", spec := "fnExactCycReal", apart := false }
def FnExactCycRealSaid : Prop := fnExactCycRealRow.holds Try.pinned (OpenSpec.ofChange fnExactCycRealSpec)

/-- ITS FALSE NEIGHBOUR: 'it returns false'. Refute it at one input. -/
def fnExactCycRealWrong : ChangeSpec := { name := "fnExactCycReal", fn := fun _ => fun
  | [d] => { results := [.lit (.bool false)], args := [d] }
  | _ => none }
def FnExactCycRealWrongFalsely : Prop := fnExactCycRealRow.holds Try.pinned (OpenSpec.ofChange fnExactCycRealWrong)

/-- 'laws.FnExactCycTimes': WHATEVER THE INPUT: true; the input reads as it did. -/
def fnExactCycTimesSpec : ChangeSpec := { name := "fnExactCycTimes", fn := fun _ => fun
  | [d1, d2] => { results := [.lit (.bool true)], args := [d1, d2] }
  | _ => none }
def fnExactCycTimesRow : OpenClaim := { program := "ytamfdilibgcakaa", sum := "849e3cf73cabe32e732ff756db3914a281ba57f2436015e6274353862c16cb71", func := "loop.example/turningwheels/laws.FnExactCycTimes", spec := "fnExactCycTimes", apart := false }
def FnExactCycTimesSaid : Prop := fnExactCycTimesRow.holds Try.pinned (OpenSpec.ofChange fnExactCycTimesSpec)

/-- ITS FALSE NEIGHBOUR: 'it returns false'. Refute it at one input. -/
def fnExactCycTimesWrong : ChangeSpec := { name := "fnExactCycTimes", fn := fun _ => fun
  | [d1, d2] => { results := [.lit (.bool false)], args := [d1, d2] }
  | _ => none }
def FnExactCycTimesWrongFalsely : Prop := fnExactCycTimesRow.holds Try.pinned (OpenSpec.ofChange fnExactCycTimesWrong)

/-- 'laws.FnGauss': WHATEVER THE INPUT: true; the input reads as it did. -/
def fnGaussSpec : ChangeSpec := { name := "fnGauss", fn := fun _ => fun
  | [d] => { results := [.lit (.bool true)], args := [d] }
  | _ => none }
def fnGaussRow : OpenClaim := { program := "ytamfdilibgcakaa", sum := "849e3cf73cabe32e732ff756db3914a281ba57f2436015e6274353862c16cb71", func := "loop.example/turningwheels/laws.FnGauss", spec := "fnGauss", apart := false }
def FnGaussSaid : Prop := fnGaussRow.holds Try.pinned (OpenSpec.ofChange fnGaussSpec)

/-- ITS FALSE NEIGHBOUR: 'it returns false'. Refute it at one input. -/
def fnGaussWrong : ChangeSpec := { name := "fnGauss", fn := fun _ => fun
  | [d] => { results := [.lit (.bool false)], args := [d] }
  | _ => none }
def FnGaussWrongFalsely : Prop := fnGaussRow.holds Try.pinned (OpenSpec.ofChange fnGaussWrong)

/-- 'laws.FnExactCycTurned': WHATEVER THE INPUT: true; the input reads as it did. -/
def fnExactCycTurnedSpec : ChangeSpec := { name := "fnExactCycTurned", fn := fun _ => fun
  | [d1, d2] => { results := [.lit (.bool true)], args := [d1, d2] }
  | _ => none }
def fnExactCycTurnedRow : OpenClaim := { program := "ytamfdilibgcakaa", sum := "849e3cf73cabe32e732ff756db3914a281ba57f2436015e6274353862c16cb71", func := "loop.example/turningwheels/laws.FnExactCycTurned", spec := "fnExactCycTurned", apart := false }
def FnExactCycTurnedSaid : Prop := fnExactCycTurnedRow.holds Try.pinned (OpenSpec.ofChange fnExactCycTurnedSpec)

/-- ITS FALSE NEIGHBOUR: 'it returns false'. Refute it at one input. -/
def fnExactCycTurnedWrong : ChangeSpec := { name := "fnExactCycTurned", fn := fun _ => fun
  | [d1, d2] => { results := [.lit (.bool false)], args := [d1, d2] }
  | _ => none }
def FnExactCycTurnedWrongFalsely : Prop := fnExactCycTurnedRow.holds Try.pinned (OpenSpec.ofChange fnExactCycTurnedWrong)

/-- 'laws.FnRoot': WHATEVER THE INPUT: true; the input reads as it did. -/
def fnRootSpec : ChangeSpec := { name := "fnRoot", fn := fun _ => fun
  | [d] => { results := [.lit (.bool true)], args := [d] }
  | _ => none }
def fnRootRow : OpenClaim := { program := "ytamfdilibgcakaa", sum := "849e3cf73cabe32e732ff756db3914a281ba57f2436015e6274353862c16cb71", func := "loop.example/turningwheels/laws.FnRoot", spec := "fnRoot", apart := false }
def FnRootSaid : Prop := fnRootRow.holds Try.pinned (OpenSpec.ofChange fnRootSpec)

/-- ITS FALSE NEIGHBOUR: 'it returns false'. Refute it at one input. -/
def fnRootWrong : ChangeSpec := { name := "fnRoot", fn := fun _ => fun
  | [d] => { results := [.lit (.bool false)], args := [d] }
  | _ => none }
def FnRootWrongFalsely : Prop := fnRootRow.holds Try.pinned (OpenSpec.ofChange fnRootWrong)

/-- 'laws.FnExactCycMirror': WHATEVER THE INPUT: true; the input reads as it did. -/
def fnExactCycMirrorSpec : ChangeSpec := { name := "fnExactCycMirror", fn := fun _ => fun
  | [d] => { results := [.lit (.bool true)], args := [d] }
  | _ => none }
def fnExactCycMirrorRow : OpenClaim := { program := "ytamfdilibgcakaa", sum := "849e3cf73cabe32e732ff756db3914a281ba57f2436015e6274353862c16cb71", func := "loop.example/turningwheels/laws.FnExactCycMirror", spec := "fnExactCycMirror", apart := false }
def FnExactCycMirrorSaid : Prop := fnExactCycMirrorRow.holds Try.pinned (OpenSpec.ofChange fnExactCycMirrorSpec)

/-- ITS FALSE NEIGHBOUR: 'it returns false'. Refute it at one input. -/
def fnExactCycMirrorWrong : ChangeSpec := { name := "fnExactCycMirror", fn := fun _ => fun
  | [d] => { results := [.lit (.bool false)], args := [d] }
  | _ => none }
def FnExactCycMirrorWrongFalsely : Prop := fnExactCycMirrorRow.holds Try.pinned (OpenSpec.ofChange fnExactCycMirrorWrong)

/-- 'laws.FnTurned': WHATEVER THE INPUT: true; the input reads as it did. -/
def fnTurnedSpec : ChangeSpec := { name := "fnTurned", fn := fun _ => fun
  | [d] => { results := [.lit (.bool true)], args := [d] }
  | _ => none }
def fnTurnedRow : OpenClaim := { program := "ytamfdilibgcakaa", sum := "849e3cf73cabe32e732ff756db3914a281ba57f2436015e6274353862c16cb71", func := "loop.example/turningwheels/laws.FnTurned", spec := "fnTurned", apart := false }
def FnTurnedSaid : Prop := fnTurnedRow.holds Try.pinned (OpenSpec.ofChange fnTurnedSpec)

/-- ITS FALSE NEIGHBOUR: 'it returns false'. Refute it at one input. -/
def fnTurnedWrong : ChangeSpec := { name := "fnTurned", fn := fun _ => fun
  | [d] => { results := [.lit (.bool false)], args := [d] }
  | _ => none }
def FnTurnedWrongFalsely : Prop := fnTurnedRow.holds Try.pinned (OpenSpec.ofChange fnTurnedWrong)

/-- 'laws.FnCycTimes': WHATEVER THE INPUT: true; the input reads as it did. -/
def fnCycTimesSpec : ChangeSpec := { name := "fnCycTimes", fn := fun _ => fun
  | [d] => { results := [.lit (.bool true)], args := [d] }
  | _ => none }
def fnCycTimesRow : OpenClaim := { program := "ytamfdilibgcakaa", sum := "849e3cf73cabe32e732ff756db3914a281ba57f2436015e6274353862c16cb71", func := "loop.example/turningwheels/laws.FnCycTimes", spec := "fnCycTimes", apart := false }
def FnCycTimesSaid : Prop := fnCycTimesRow.holds Try.pinned (OpenSpec.ofChange fnCycTimesSpec)

/-- ITS FALSE NEIGHBOUR: 'it returns false'. Refute it at one input. -/
def fnCycTimesWrong : ChangeSpec := { name := "fnCycTimes", fn := fun _ => fun
  | [d] => { results := [.lit (.bool false)], args := [d] }
  | _ => none }
def FnCycTimesWrongFalsely : Prop := fnCycTimesRow.holds Try.pinned (OpenSpec.ofChange fnCycTimesWrong)

/-- 'laws.FnCycMirror': WHATEVER THE INPUT: true; the input reads as it did. -/
def fnCycMirrorSpec : ChangeSpec := { name := "fnCycMirror", fn := fun _ => fun
  | [d] => { results := [.lit (.bool true)], args := [d] }
  | _ => none }
def fnCycMirrorRow : OpenClaim := { program := "ytamfdilibgcakaa", sum := "849e3cf73cabe32e732ff756db3914a281ba57f2436015e6274353862c16cb71", func := "loop.example/turningwheels/laws.FnCycMirror", spec := "fnCycMirror", apart := false }
def FnCycMirrorSaid : Prop := fnCycMirrorRow.holds Try.pinned (OpenSpec.ofChange fnCycMirrorSpec)

/-- ITS FALSE NEIGHBOUR: 'it returns false'. Refute it at one input. -/
def fnCycMirrorWrong : ChangeSpec := { name := "fnCycMirror", fn := fun _ => fun
  | [d] => { results := [.lit (.bool false)], args := [d] }
  | _ => none }
def FnCycMirrorWrongFalsely : Prop := fnCycMirrorRow.holds Try.pinned (OpenSpec.ofChange fnCycMirrorWrong)

/-- 'laws.FnDistribute': WHATEVER THE INPUT: true; the input reads as it did. -/
def fnDistributeSpec : ChangeSpec := { name := "fnDistribute", fn := fun _ => fun
  | [d] => { results := [.lit (.bool true)], args := [d] }
  | _ => none }
def fnDistributeRow : OpenClaim := { program := "ytamfdilibgcakaa", sum := "849e3cf73cabe32e732ff756db3914a281ba57f2436015e6274353862c16cb71", func := "loop.example/turningwheels/laws.FnDistribute", spec := "fnDistribute", apart := false }
def FnDistributeSaid : Prop := fnDistributeRow.holds Try.pinned (OpenSpec.ofChange fnDistributeSpec)

/-- ITS FALSE NEIGHBOUR: 'it returns false'. Refute it at one input. -/
def fnDistributeWrong : ChangeSpec := { name := "fnDistribute", fn := fun _ => fun
  | [d] => { results := [.lit (.bool false)], args := [d] }
  | _ => none }
def FnDistributeWrongFalsely : Prop := fnDistributeRow.holds Try.pinned (OpenSpec.ofChange fnDistributeWrong)

/-- 'laws.FnReal': WHATEVER THE INPUT: true; the input reads as it did. -/
def fnRealSpec : ChangeSpec := { name := "fnReal", fn := fun _ => fun
  | [d] => { results := [.lit (.bool true)], args := [d] }
  | _ => none }
def fnRealRow : OpenClaim := { program := "ytamfdilibgcakaa", sum := "849e3cf73cabe32e732ff756db3914a281ba57f2436015e6274353862c16cb71", func := "loop.example/turningwheels/laws.FnReal", spec := "fnReal", apart := false }
def FnRealSaid : Prop := fnRealRow.holds Try.pinned (OpenSpec.ofChange fnRealSpec)

/-- ITS FALSE NEIGHBOUR: 'it returns false'. Refute it at one input. -/
def fnRealWrong : ChangeSpec := { name := "fnReal", fn := fun _ => fun
  | [d] => { results := [.lit (.bool false)], args := [d] }
  | _ => none }
def FnRealWrongFalsely : Prop := fnRealRow.holds Try.pinned (OpenSpec.ofChange fnRealWrong)

/-- 'laws.FnSurdTimes': WHATEVER THE INPUT: true; the input reads as it did. -/
def fnSurdTimesSpec : ChangeSpec := { name := "fnSurdTimes", fn := fun _ => fun
  | [d] => { results := [.lit (.bool true)], args := [d] }
  | _ => none }
def fnSurdTimesRow : OpenClaim := { program := "ytamfdilibgcakaa", sum := "849e3cf73cabe32e732ff756db3914a281ba57f2436015e6274353862c16cb71", func := "loop.example/turningwheels/laws.FnSurdTimes", spec := "fnSurdTimes", apart := false }
def FnSurdTimesSaid : Prop := fnSurdTimesRow.holds Try.pinned (OpenSpec.ofChange fnSurdTimesSpec)

/-- ITS FALSE NEIGHBOUR: 'it returns false'. Refute it at one input. -/
def fnSurdTimesWrong : ChangeSpec := { name := "fnSurdTimes", fn := fun _ => fun
  | [d] => { results := [.lit (.bool false)], args := [d] }
  | _ => none }
def FnSurdTimesWrongFalsely : Prop := fnSurdTimesRow.holds Try.pinned (OpenSpec.ofChange fnSurdTimesWrong)

/- THE SECOND FORM. 'bulk': how many values and letters a reading holds, each counted each time it is reached (what is shared counts as often as it is met; a slice's spare places count too). A statement '..UptoSaid' is the law's where the arguments, and the package variables that the reading takes, are together of bulk at most 1048576: NARROWER than '..Said'. Prove '..Said' where nothing that the law and all that it calls make is longer than what came in: it says more and counts as full. Else prove '..UptoSaid'. A law counts once. -/
mutual
def uptoBulk {H : Type} : DataW H → Nat
  | .lit (.string bytes) => bytes.length + 1
  | .lit _ => 1
  | .nil => 1
  | .ptr d => uptoBulk d + 1
  | .slice elems spare => uptoBulkAll elems + uptoBulkAll spare + 1
  | .agg parts => uptoBulkAll parts + 1
  | .iface _ d => uptoBulk d + 1
  | .map entries => uptoBulkEntries entries + 1
  | .held _ => 1
def uptoBulkAll {H : Type} : List (DataW H) → Nat
  | [] => 0
  | d :: r => uptoBulk d + uptoBulkAll r
def uptoBulkEntries {H : Type} : List (Lit × DataW H) → Nat
  | [] => 0
  | x :: r => uptoBulkEntry x + uptoBulkEntries r
def uptoBulkEntry {H : Type} : Lit × DataW H → Nat
  | (.string bytes, d) => bytes.length + uptoBulk d + 1
  | (_, d) => uptoBulk d + 1
 end
def uptoSmall : (H : Type) → List (DataW H) → Bool := fun _ ds => decide (uptoBulkAll ds ≤ 1048576)
def OpenSpec.upto (s : _root_.Go.ChangeSpec) : _root_.Go.OpenSpec := { _root_.Go.OpenSpec.ofChange s with cond := some uptoSmall }

/-- 'laws.FnExactCycReal', WHERE WHAT IT READS IS OF BULK AT MOST 1048576: true; the input reads as it did. -/
def fnExactCycRealUptoRow : OpenClaim := { program := "ytamfdilibgcakaa", sum := "849e3cf73cabe32e732ff756db3914a281ba57f2436015e6274353862c16cb71", func := "loop.example/turningwheels/laws.FnExactCycReal", spec := "fnExactCycReal", apart := false, narrowed := true }
def FnExactCycRealUptoSaid : Prop := fnExactCycRealUptoRow.holds Try.pinned (OpenSpec.upto fnExactCycRealSpec)

/-- 'laws.FnExactCycTimes', WHERE WHAT IT READS IS OF BULK AT MOST 1048576: true; the input reads as it did. -/
def fnExactCycTimesUptoRow : OpenClaim := { program := "ytamfdilibgcakaa", sum := "849e3cf73cabe32e732ff756db3914a281ba57f2436015e6274353862c16cb71", func := "loop.example/turningwheels/laws.FnExactCycTimes", spec := "fnExactCycTimes", apart := false, narrowed := true }
def FnExactCycTimesUptoSaid : Prop := fnExactCycTimesUptoRow.holds Try.pinned (OpenSpec.upto fnExactCycTimesSpec)

/-- 'laws.FnGauss', WHERE WHAT IT READS IS OF BULK AT MOST 1048576: true; the input reads as it did. -/
def fnGaussUptoRow : OpenClaim := { program := "ytamfdilibgcakaa", sum := "849e3cf73cabe32e732ff756db3914a281ba57f2436015e6274353862c16cb71", func := "loop.example/turningwheels/laws.FnGauss", spec := "fnGauss", apart := false, narrowed := true }
def FnGaussUptoSaid : Prop := fnGaussUptoRow.holds Try.pinned (OpenSpec.upto fnGaussSpec)

/-- 'laws.FnExactCycTurned', WHERE WHAT IT READS IS OF BULK AT MOST 1048576: true; the input reads as it did. -/
def fnExactCycTurnedUptoRow : OpenClaim := { program := "ytamfdilibgcakaa", sum := "849e3cf73cabe32e732ff756db3914a281ba57f2436015e6274353862c16cb71", func := "loop.example/turningwheels/laws.FnExactCycTurned", spec := "fnExactCycTurned", apart := false, narrowed := true }
def FnExactCycTurnedUptoSaid : Prop := fnExactCycTurnedUptoRow.holds Try.pinned (OpenSpec.upto fnExactCycTurnedSpec)

/-- 'laws.FnRoot', WHERE WHAT IT READS IS OF BULK AT MOST 1048576: true; the input reads as it did. -/
def fnRootUptoRow : OpenClaim := { program := "ytamfdilibgcakaa", sum := "849e3cf73cabe32e732ff756db3914a281ba57f2436015e6274353862c16cb71", func := "loop.example/turningwheels/laws.FnRoot", spec := "fnRoot", apart := false, narrowed := true }
def FnRootUptoSaid : Prop := fnRootUptoRow.holds Try.pinned (OpenSpec.upto fnRootSpec)

/-- 'laws.FnExactCycMirror', WHERE WHAT IT READS IS OF BULK AT MOST 1048576: true; the input reads as it did. -/
def fnExactCycMirrorUptoRow : OpenClaim := { program := "ytamfdilibgcakaa", sum := "849e3cf73cabe32e732ff756db3914a281ba57f2436015e6274353862c16cb71", func := "loop.example/turningwheels/laws.FnExactCycMirror", spec := "fnExactCycMirror", apart := false, narrowed := true }
def FnExactCycMirrorUptoSaid : Prop := fnExactCycMirrorUptoRow.holds Try.pinned (OpenSpec.upto fnExactCycMirrorSpec)

/-- 'laws.FnTurned', WHERE WHAT IT READS IS OF BULK AT MOST 1048576: true; the input reads as it did. -/
def fnTurnedUptoRow : OpenClaim := { program := "ytamfdilibgcakaa", sum := "849e3cf73cabe32e732ff756db3914a281ba57f2436015e6274353862c16cb71", func := "loop.example/turningwheels/laws.FnTurned", spec := "fnTurned", apart := false, narrowed := true }
def FnTurnedUptoSaid : Prop := fnTurnedUptoRow.holds Try.pinned (OpenSpec.upto fnTurnedSpec)

/-- 'laws.FnCycTimes', WHERE WHAT IT READS IS OF BULK AT MOST 1048576: true; the input reads as it did. -/
def fnCycTimesUptoRow : OpenClaim := { program := "ytamfdilibgcakaa", sum := "849e3cf73cabe32e732ff756db3914a281ba57f2436015e6274353862c16cb71", func := "loop.example/turningwheels/laws.FnCycTimes", spec := "fnCycTimes", apart := false, narrowed := true }
def FnCycTimesUptoSaid : Prop := fnCycTimesUptoRow.holds Try.pinned (OpenSpec.upto fnCycTimesSpec)

/-- 'laws.FnCycMirror', WHERE WHAT IT READS IS OF BULK AT MOST 1048576: true; the input reads as it did. -/
def fnCycMirrorUptoRow : OpenClaim := { program := "ytamfdilibgcakaa", sum := "849e3cf73cabe32e732ff756db3914a281ba57f2436015e6274353862c16cb71", func := "loop.example/turningwheels/laws.FnCycMirror", spec := "fnCycMirror", apart := false, narrowed := true }
def FnCycMirrorUptoSaid : Prop := fnCycMirrorUptoRow.holds Try.pinned (OpenSpec.upto fnCycMirrorSpec)

/-- 'laws.FnDistribute', WHERE WHAT IT READS IS OF BULK AT MOST 1048576: true; the input reads as it did. -/
def fnDistributeUptoRow : OpenClaim := { program := "ytamfdilibgcakaa", sum := "849e3cf73cabe32e732ff756db3914a281ba57f2436015e6274353862c16cb71", func := "loop.example/turningwheels/laws.FnDistribute", spec := "fnDistribute", apart := false, narrowed := true }
def FnDistributeUptoSaid : Prop := fnDistributeUptoRow.holds Try.pinned (OpenSpec.upto fnDistributeSpec)

/-- 'laws.FnReal', WHERE WHAT IT READS IS OF BULK AT MOST 1048576: true; the input reads as it did. -/
def fnRealUptoRow : OpenClaim := { program := "ytamfdilibgcakaa", sum := "849e3cf73cabe32e732ff756db3914a281ba57f2436015e6274353862c16cb71", func := "loop.example/turningwheels/laws.FnReal", spec := "fnReal", apart := false, narrowed := true }
def FnRealUptoSaid : Prop := fnRealUptoRow.holds Try.pinned (OpenSpec.upto fnRealSpec)

/-- 'laws.FnSurdTimes', WHERE WHAT IT READS IS OF BULK AT MOST 1048576: true; the input reads as it did. -/
def fnSurdTimesUptoRow : OpenClaim := { program := "ytamfdilibgcakaa", sum := "849e3cf73cabe32e732ff756db3914a281ba57f2436015e6274353862c16cb71", func := "loop.example/turningwheels/laws.FnSurdTimes", spec := "fnSurdTimes", apart := false, narrowed := true }
def FnSurdTimesUptoSaid : Prop := fnSurdTimesUptoRow.holds Try.pinned (OpenSpec.upto fnSurdTimesSpec)

end Rows
end Go.Proofs.Ytamfdilibgcakaa
