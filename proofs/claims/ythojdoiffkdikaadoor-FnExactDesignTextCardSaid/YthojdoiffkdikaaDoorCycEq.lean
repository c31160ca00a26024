/- Exact points compared with == and !=: one run law each. -/
import Derived.Test.YthojdoiffkdikaaDoorCycI
import Derived.ChangeKeysEq
namespace Go.Proofs.YthojdoiffkdikaaDoor
open Go.RowKit

theorem partA (a : C8) (w : World) : (part 53 (row a) 0).run Tryd.prog w = .ok (.agg (row a)) w := by kernel_rfl
theorem part0 (a : C8) (w : World) : (part 3 (row a) 0).run Tryd.prog w = .ok (.int .i64 a.c0) w := by kernel_rfl
theorem part1 (a : C8) (w : World) : (part 3 (row a) 1).run Tryd.prog w = .ok (.int .i64 a.c1) w := by kernel_rfl
theorem part2 (a : C8) (w : World) : (part 3 (row a) 2).run Tryd.prog w = .ok (.int .i64 a.c2) w := by kernel_rfl
theorem part3 (a : C8) (w : World) : (part 3 (row a) 3).run Tryd.prog w = .ok (.int .i64 a.c3) w := by kernel_rfl
theorem part4 (a : C8) (w : World) : (part 3 (row a) 4).run Tryd.prog w = .ok (.int .i64 a.c4) w := by kernel_rfl
theorem part5 (a : C8) (w : World) : (part 3 (row a) 5).run Tryd.prog w = .ok (.int .i64 a.c5) w := by kernel_rfl
theorem part6 (a : C8) (w : World) : (part 3 (row a) 6).run Tryd.prog w = .ok (.int .i64 a.c6) w := by kernel_rfl
theorem part7 (a : C8) (w : World) : (part 3 (row a) 7).run Tryd.prog w = .ok (.int .i64 a.c7) w := by kernel_rfl
theorem infoI : ∃ i, Tryd.prog.info? 3 = some i := info_of_underlying Tryd.underlying3
theorem cellsIq : Tryd.prog.cellsOf 3 = 1 := by kernel_rfl
theorem range8 : List.range 8 = [0, 1, 2, 3, 4, 5, 6, 7] := by decide

theorem run_eqA (a b : C8) (w : World) (d : Nat) : (Op.equalIn (d + 2) 53 (.agg (row a)) (.agg (row b))).run Tryd.prog w = .ok (eqC a b) w := by
  obtain ⟨i, hi⟩ := infoI
  rw [run_equalIn_array w (d + 1) _ _ Tryd.underlying53 hi, range8, cellsIq]
  simp only [Op.eqItems, Nat.mul_one, Sem.run_bind, part0, part1, part2, part3, part4, part5, part6, part7, Result.andThen_ok, run_equalIn_int w _ 3 _ _ _ _ Tryd.underlying3, Sem.run_ite, Sem.run_pure]
  simp only [eqC]
  repeat' split
  all_goals simp_all

theorem fieldsC : (Tryd.prog.fieldsOf 55).toList = [{ name := "C", type := 53, offset := 0, embedded := false, tag := "", pkgPath := "", byteOffset := 0 }] := by kernel_rfl

@[go_sem] theorem run_eqA' (a b : C8) (w : World) : (Op.equalIn 9999 53 (.agg (row a)) (.agg (row b))).run Tryd.prog w = .ok (eqC a b) w := run_eqA a b w 9997
@[go_sem] theorem row_extract (a : C8) : (row a).extract 0 8 = row a := by simp [row]
@[go_sem] theorem ok_ite (b : Bool) (w : World) : (if b = false then Result.ok false w else Result.ok true w) = Result.ok b w := by cases b <;> rfl
theorem eqC_comm (a b : C8) : eqC a b = eqC b a := by rw [Bool.eq_iff_iff, eqC_iff, eqC_iff]; exact eq_comm

theorem run_eqC (a b : C8) (w : World) : (Op.equalIn 10000 55 (cv a) (cv b)).run Tryd.prog w = .ok (eqC a b) w := by
  rw [run_equalIn_agg w 9999 55 _ _ (by kernel_rfl) (by kernel_rfl)]
  rw [fieldsC]
  simp only [Op.eqFields, Sem.run_bind, partA, Result.andThen_ok, run_eqA a b w 9997, Sem.run_ite, Sem.run_pure]
  cases eqC a b <;> simp

@[go_sem] theorem run_eqlC (a b : C8) (w : World) : (binOp .eql 55 (cv a) (cv b)).run Tryd.prog w = .ok (.bool (eqC a b)) w := by
  rw [run_eql_struct, run_eqC]; rfl
@[go_sem] theorem run_neqC (a b : C8) (w : World) : (binOp .neq 55 (cv a) (cv b)).run Tryd.prog w = .ok (.bool (!eqC a b)) w := by
  rw [run_neq_struct, run_eqC]; rfl
@[go_sem] theorem guardC (op : BinOp) (x y : Operand) (a b : C8) (w : World) : (eqGuard op 55 x y (cv a) (cv b)).run Tryd.prog w = .ok () w :=
  run_eqGuard_agg w op _ x y _ _ (by kernel_rfl)
end Go.Proofs.YthojdoiffkdikaaDoor
