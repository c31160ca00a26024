/- Surds compared with == and !=: one run law each. -/
import Derived.Test.YtelgbmebjickeaaSurdA
import Derived.ChangeKeysEq
namespace Go.Proofs.Ytelgbmebjickeaa
open Go.RowKit

def eqV (a b c d a' b' c' d' : Int) : Bool := decide (a = a') && decide (b = b') && decide (c = c') && decide (d = d')
@[simp, go_sem] theorem eqV_self (a b c d : Int) : eqV a b c d a b c d = true := by simp [eqV]
theorem spart0 (a b c d : Int) (w : World) : (part 3 #[.int .i64 a, .int .i64 b, .int .i64 c, .int .i64 d] 0).run Try.prog w = .ok (.int .i64 a) w := by kernel_rfl
theorem spart1 (a b c d : Int) (w : World) : (part 3 #[.int .i64 a, .int .i64 b, .int .i64 c, .int .i64 d] 1).run Try.prog w = .ok (.int .i64 b) w := by kernel_rfl
theorem spart2 (a b c d : Int) (w : World) : (part 3 #[.int .i64 a, .int .i64 b, .int .i64 c, .int .i64 d] 2).run Try.prog w = .ok (.int .i64 c) w := by kernel_rfl
theorem spart3 (a b c d : Int) (w : World) : (part 3 #[.int .i64 a, .int .i64 b, .int .i64 c, .int .i64 d] 3).run Try.prog w = .ok (.int .i64 d) w := by kernel_rfl
theorem fieldsS : (Try.prog.fieldsOf 47).toList = [{ name := "A", type := 3, offset := 0, embedded := false, tag := "", pkgPath := "", byteOffset := 0 }, { name := "B", type := 3, offset := 1, embedded := false, tag := "", pkgPath := "", byteOffset := 8 }, { name := "C", type := 3, offset := 2, embedded := false, tag := "", pkgPath := "", byteOffset := 16 }, { name := "D", type := 3, offset := 3, embedded := false, tag := "", pkgPath := "", byteOffset := 24 }] := by kernel_rfl

theorem run_eqS (a b c d a' b' c' d' : Int) (w : World) : (Op.equalIn 10000 47 (sv a b c d) (sv a' b' c' d')).run Try.prog w = .ok (eqV a b c d a' b' c' d') w := by
  rw [run_equalIn_agg w 9999 47 _ _ (by kernel_rfl) (by kernel_rfl)]
  rw [fieldsS]
  simp only [Op.eqFields, Sem.run_bind, spart0, spart1, spart2, spart3, Result.andThen_ok, run_equalIn_int w _ 3 _ _ _ _ Try.underlying3, Sem.run_ite, Sem.run_pure]
  simp only [eqV]
  repeat' split
  all_goals simp_all

@[go_sem] theorem run_eqlS (a b c d a' b' c' d' : Int) (w : World) : (binOp .eql 47 (sv a b c d) (sv a' b' c' d')).run Try.prog w = .ok (.bool (eqV a b c d a' b' c' d')) w := by
  rw [run_eql_struct, run_eqS]; rfl
@[go_sem] theorem run_neqS (a b c d a' b' c' d' : Int) (w : World) : (binOp .neq 47 (sv a b c d) (sv a' b' c' d')).run Try.prog w = .ok (.bool (!eqV a b c d a' b' c' d')) w := by
  rw [run_neq_struct, run_eqS]; rfl
@[go_sem] theorem guardS (op : BinOp) (x y : Operand) (a b c d a' b' c' d' : Int) (w : World) : (eqGuard op 47 x y (sv a b c d) (sv a' b' c' d')).run Try.prog w = .ok () w :=
  run_eqGuard_agg w op _ x y _ _ (by kernel_rfl)
end Go.Proofs.Ytelgbmebjickeaa
