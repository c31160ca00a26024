/- Exact points, plain arithmetic: the program's reductions give the products and the mirrored points. -/
import Derived.Test.YtklmlodapinflaaCycP
namespace Go.Proofs.Ytklmlodapinflaa
open Go.RowKit
theorem outMp_8 (a b : C8) : outMp a b 8 = [a.c0 * b.c0, a.c0 * b.c1 + a.c1 * b.c0, a.c0 * b.c2 + a.c1 * b.c1 + a.c2 * b.c0, a.c0 * b.c3 + a.c1 * b.c2 + a.c2 * b.c1 + a.c3 * b.c0, a.c0 * b.c4 + a.c1 * b.c3 + a.c2 * b.c2 + a.c3 * b.c1 + a.c4 * b.c0, a.c0 * b.c5 + a.c1 * b.c4 + a.c2 * b.c3 + a.c3 * b.c2 + a.c4 * b.c1 + a.c5 * b.c0, a.c0 * b.c6 + a.c1 * b.c5 + a.c2 * b.c4 + a.c3 * b.c3 + a.c4 * b.c2 + a.c5 * b.c1 + a.c6 * b.c0, a.c0 * b.c7 + a.c1 * b.c6 + a.c2 * b.c5 + a.c3 * b.c4 + a.c4 * b.c3 + a.c5 * b.c2 + a.c6 * b.c1 + a.c7 * b.c0, a.c1 * b.c7 + a.c2 * b.c6 + a.c3 * b.c5 + a.c4 * b.c4 + a.c5 * b.c3 + a.c6 * b.c2 + a.c7 * b.c1, a.c2 * b.c7 + a.c3 * b.c6 + a.c4 * b.c5 + a.c5 * b.c4 + a.c6 * b.c3 + a.c7 * b.c2, a.c3 * b.c7 + a.c4 * b.c6 + a.c5 * b.c5 + a.c6 * b.c4 + a.c7 * b.c3, a.c4 * b.c7 + a.c5 * b.c6 + a.c6 * b.c5 + a.c7 * b.c4, a.c5 * b.c7 + a.c6 * b.c6 + a.c7 * b.c5, a.c6 * b.c7 + a.c7 * b.c6, a.c7 * b.c7] := by
  simp [outMp, zeros, inMp, stepMp, gt, C8.g, C8.l]
theorem C8.red_mul (a b : C8) : C8.red (outM a b 8) = (C8.mul a b).wr := by
  rw [outM_map, C8.red_map, outMp_8, C8.mul_eq]
  apply C8.ext' <;> simp only [C8.wr] <;> refine congrArg wrap64 ?_
  all_goals
    simp [C8.of, redLp, stepRp, gt]
    try omega
theorem mirMp_8 (a : C8) : mirMp a 8 = [a.c0, 0, 0, 0, 0, 0, 0, 0, 0, 0, 0, 0, 0, 0, 0, 0, 0, a.c7, a.c6, a.c5, a.c4, a.c3, a.c2, a.c1, 0] := by
  simp [mirMp, zeros, gt, C8.g, C8.l]
theorem C8.red_mir (a : C8) : C8.red (mirM a 8) = a.mir.wr := by
  rw [mirM_map, C8.red_map, mirMp_8]
  apply C8.ext' <;> simp only [C8.wr, C8.mir] <;> refine congrArg wrap64 ?_
  all_goals
    simp [C8.of, redLp, stepRp, gt]
    try omega
end Go.Proofs.Ytklmlodapinflaa
