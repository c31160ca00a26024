/- Exact points compared with == and !=: one run law each. Tidy designs: the closures, the searches. -/
import Derived.Test.YthojdoiffkdikaaGreatDoorCycI
import Derived.ChangeKeysEq
import Derived.Test.YthojdoiffkdikaaGreatDoorDesA
import Derived.Test.YthojdoiffkdikaaGreatDoorShelf
section -- a part
namespace Go.Proofs.YthojdoiffkdikaaGreatDoor
open Go.RowKit

theorem partA (a : C8) (w : World) : (part 57 (row a) 0).run Tryz.prog w = .ok (.agg (row a)) w := by kernel_rfl
theorem part0 (a : C8) (w : World) : (part 3 (row a) 0).run Tryz.prog w = .ok (.int .i64 a.c0) w := by kernel_rfl
theorem part1 (a : C8) (w : World) : (part 3 (row a) 1).run Tryz.prog w = .ok (.int .i64 a.c1) w := by kernel_rfl
theorem part2 (a : C8) (w : World) : (part 3 (row a) 2).run Tryz.prog w = .ok (.int .i64 a.c2) w := by kernel_rfl
theorem part3 (a : C8) (w : World) : (part 3 (row a) 3).run Tryz.prog w = .ok (.int .i64 a.c3) w := by kernel_rfl
theorem part4 (a : C8) (w : World) : (part 3 (row a) 4).run Tryz.prog w = .ok (.int .i64 a.c4) w := by kernel_rfl
theorem part5 (a : C8) (w : World) : (part 3 (row a) 5).run Tryz.prog w = .ok (.int .i64 a.c5) w := by kernel_rfl
theorem part6 (a : C8) (w : World) : (part 3 (row a) 6).run Tryz.prog w = .ok (.int .i64 a.c6) w := by kernel_rfl
theorem part7 (a : C8) (w : World) : (part 3 (row a) 7).run Tryz.prog w = .ok (.int .i64 a.c7) w := by kernel_rfl
theorem infoI : ∃ i, Tryz.prog.info? 3 = some i := info_of_underlying Tryz.underlying3
theorem cellsIq : Tryz.prog.cellsOf 3 = 1 := by kernel_rfl
theorem range8 : List.range 8 = [0, 1, 2, 3, 4, 5, 6, 7] := by decide

theorem run_eqA (a b : C8) (w : World) (d : Nat) : (Op.equalIn (d + 2) 57 (.agg (row a)) (.agg (row b))).run Tryz.prog w = .ok (eqC a b) w := by
  obtain ⟨i, hi⟩ := infoI
  rw [run_equalIn_array w (d + 1) _ _ Tryz.underlying57 hi, range8, cellsIq]
  simp only [Op.eqItems, Nat.mul_one, Sem.run_bind, part0, part1, part2, part3, part4, part5, part6, part7, Result.andThen_ok, run_equalIn_int w _ 3 _ _ _ _ Tryz.underlying3, Sem.run_ite, Sem.run_pure]
  simp only [eqC]
  repeat' split
  all_goals simp_all

theorem fieldsC : (Tryz.prog.fieldsOf 59).toList = [{ name := "C", type := 57, offset := 0, embedded := false, tag := "", pkgPath := "", byteOffset := 0 }] := by kernel_rfl

@[go_sem] theorem run_eqA' (a b : C8) (w : World) : (Op.equalIn 9999 57 (.agg (row a)) (.agg (row b))).run Tryz.prog w = .ok (eqC a b) w := run_eqA a b w 9997
@[go_sem] theorem row_extract (a : C8) : (row a).extract 0 8 = row a := by simp [row]
@[go_sem] theorem ok_ite (b : Bool) (w : World) : (if b = false then Result.ok false w else Result.ok true w) = Result.ok b w := by cases b <;> rfl
theorem eqC_comm (a b : C8) : eqC a b = eqC b a := by rw [Bool.eq_iff_iff, eqC_iff, eqC_iff]; exact eq_comm

theorem run_eqC (a b : C8) (w : World) : (Op.equalIn 10000 59 (cv a) (cv b)).run Tryz.prog w = .ok (eqC a b) w := by
  rw [run_equalIn_agg w 9999 59 _ _ (by kernel_rfl) (by kernel_rfl)]
  rw [fieldsC]
  simp only [Op.eqFields, Sem.run_bind, partA, Result.andThen_ok, run_eqA a b w 9997, Sem.run_ite, Sem.run_pure]
  cases eqC a b <;> simp

@[go_sem] theorem run_eqlC (a b : C8) (w : World) : (binOp .eql 59 (cv a) (cv b)).run Tryz.prog w = .ok (.bool (eqC a b)) w := by
  rw [run_eql_struct, run_eqC]; rfl
@[go_sem] theorem run_neqC (a b : C8) (w : World) : (binOp .neq 59 (cv a) (cv b)).run Tryz.prog w = .ok (.bool (!eqC a b)) w := by
  rw [run_neq_struct, run_eqC]; rfl
@[go_sem] theorem guardC (op : BinOp) (x y : Operand) (a b : C8) (w : World) : (eqGuard op 59 x y (cv a) (cv b)).run Tryz.prog w = .ok () w :=
  run_eqGuard_agg w op _ x y _ _ (by kernel_rfl)
end Go.Proofs.YthojdoiffkdikaaGreatDoor
end
section -- a part
namespace Go.Proofs.YthojdoiffkdikaaGreatDoor
open Go.RowKit

@[go_sem] theorem rowW_ne (a : W9) : (rowW a = #[]) = False := by simp [rowW]
@[go_sem] theorem fold_rowW (z a : W9) : Array.foldl (fun (cs : Array Value) (x : Value × Nat) => cs.setIfInBounds x.snd x.fst) #[(rowW z)[0]!, (rowW z)[1]!, (rowW z)[2]!, (rowW z)[3]!, (rowW z)[4]!, (rowW z)[5]!, (rowW z)[6]!, (rowW z)[7]!, (rowW z)[8]!] ((rowW a).zipIdx 0) 0 9 = rowW a := by
  have e : ((rowW a).zipIdx 0) = #[(.int .i64 a.s, 0), (.int .i64 a.r.c0, 1), (.int .i64 a.r.c1, 2), (.int .i64 a.r.c2, 3), (.int .i64 a.r.c3, 4), (.int .i64 a.r.c4, 5), (.int .i64 a.r.c5, 6), (.int .i64 a.r.c6, 7), (.int .i64 a.r.c7, 8)] := by
    simp [rowW]
  rw [e]
  simp [rowW]
instance : Inhabited W9 := ⟨W9.zero⟩
theorem getW (xs : List W9) (i : Nat) : xs[i]! = xs.getD i W9.zero := by
  rw [List.getD_eq_getElem?_getD, List.getElem!_eq_getElem?_getD]; rfl
def encW (x : W9) : List Value := (rowW x).toList
theorem encW_v (x : W9) : Value.agg (encW x).toArray = wv x := by simp [encW]
theorem encW_len (x : W9) : (encW x).length = 9 := rfl
theorem encW_one (x : W9) : ∀ v ∈ encW x, v.oneCell' = true := fun u hu => Array.all_eq_true_iff_forall_mem.1 (rowWL_one x) u (by simpa [encW] using hu)
/-- The first wheel of a speed; the first wheel that is none. -/
def idxS (xs : List W9) (s : Int) : Int := Lib.idxBy (fun _ (y : W9) => decide (y.s = s)) xs default
def idxZ (xs : List W9) : Int := Lib.idxBy (fun _ (y : W9) => !nz y) xs default
theorem beqD (a b : Int) : (a == b) = decide (a = b) := by rw [Bool.eq_iff_iff]; simp
set_option maxHeartbeats 1000000 in
theorem tidied1_any (b : Nat) (s : Int) (x : W9) (W : World) (hb : b < W.heap.size) (hc : W.cell? ⟨b, 0, none⟩ = some (.int .i64 s)) :
    Calls Tryz.prog 106 #[wv x, .pointer (some ⟨b, 0, none⟩)] W fun e w' => e = .returned (.bool (decide (x.s = s))) ∧ Below W.heap.size W w' := by
  have hne : ¬ b = W.heap.size := by omega
  go_enter Tryz.func106, Tryz.ntmps106
  go_wp2
  go_returns
  exact ⟨congrArg (fun z => Ending.returned (.bool z)) (beqD x.s s), by repeat' (first | (with_reducible exact Below.refl _ _) | (with_reducible assumption) | (with_reducible refine Below.alloc ?_ ?_ _) | (with_reducible refine below_more ?_ ?_ _ _) | (with_reducible refine below_rd ?_ ?_ _ _) | (with_reducible refine Below.drew ?_) | (with_reducible refine Below.setCell ?_ ?_ _) | go_size)⟩
set_option maxHeartbeats 1000000 in
theorem tidied2_any (x : W9) (W : World) :
    Calls Tryz.prog 109 #[wv x] W fun e w' => e = .returned (.bool (!nz x)) ∧ Below W.heap.size W w' := by
  have hrun := run_eqlC
  go_enter Tryz.func109, Tryz.ntmps109
  go_wp2
  go_returns
  exact ⟨by simp [nz], by repeat' (first | (with_reducible exact Below.refl _ _) | (with_reducible assumption) | (with_reducible refine Below.alloc ?_ ?_ _) | (with_reducible refine below_more ?_ ?_ _ _) | (with_reducible refine below_rd ?_ ?_ _ _) | (with_reducible refine Below.drew ?_) | (with_reducible refine Below.setCell ?_ ?_ _) | go_size)⟩
theorem idx_cells {w : World} {g : Nat} {xs : List W9} (hl : Lie9 w g 0 xs) : ∀ j, j < xs.length → ∀ i v, (encW xs[j]!)[i]? = some v → w.cell? ⟨g, 0 + j * 9 + i, none⟩ = some v := by
  intro j hj i v hv
  rw [getW] at hv
  exact hl j hj i v hv
theorem indexS_any (g cap b : Nat) (s : Int) (xs : List W9) (w : World) (hg : g < w.heap.size) (hl : Lie9 w g 0 xs) (hn : xs.length ≤ 1048576) (hb : b < w.heap.size) (hc : w.cell? ⟨b, 0, none⟩ = some (.int .i64 s)) :
    Calls Tryz.prog 105 #[.slice (some ⟨g, 0, none⟩) xs.length cap, .func (.func 106) #[] #[.pointer (some ⟨b, 0, none⟩)]] w fun e w' => e = .returned (.int .i64 (idxS xs s)) ∧ Below w.heap.size w w' := by
  have h := AnyQ.slices_IndexFunc Tryz.idxW 9 Tryz.isAgg61 Tryz.sizeOf61 encW encW_len (fun y : W9 => decide (y.s = s)) 106 #[.pointer (some ⟨b, 0, none⟩)] (enters_of Tryz.func106 (by kernel_rfl) rfl) g 0 xs.length cap xs w
    (fun W x hb2 => by
      show Calls _ _ (#[Value.agg (encW x).toArray] ++ _) W _
      rw [encW_v]
      exact (tidied1_any b s x W (by have := hb2.size; omega) ((hb2.cell (p := ⟨b, 0, none⟩) hb).trans hc)).mono fun e w' h => ⟨h.1, hb2.trans (h.2.mono hb2.size)⟩)
    (Nat.le_refl _) (by omega) hg (idx_cells hl)
  rw [List.take_length] at h
  exact h
theorem indexZ_any (g cap : Nat) (xs : List W9) (w : World) (hg : g < w.heap.size) (hl : Lie9 w g 0 xs) (hn : xs.length ≤ 1048576) :
    Calls Tryz.prog 105 #[.slice (some ⟨g, 0, none⟩) xs.length cap, .func (.func 109) #[] #[]] w fun e w' => e = .returned (.int .i64 (idxZ xs)) ∧ Below w.heap.size w w' := by
  have h := AnyQ.slices_IndexFunc Tryz.idxW 9 Tryz.isAgg61 Tryz.sizeOf61 encW encW_len (fun y : W9 => !nz y) 109 #[] (enters_of Tryz.func109 (by kernel_rfl) rfl) g 0 xs.length cap xs w
    (fun W x hb2 => by
      show Calls _ _ (#[Value.agg (encW x).toArray] ++ _) W _
      rw [encW_v]
      exact (tidied2_any x W).mono fun e w' h => ⟨h.1, hb2.trans (h.2.mono hb2.size)⟩)
    (Nat.le_refl _) (by omega) hg (idx_cells hl)
  rw [List.take_length] at h
  exact h
end Go.Proofs.YthojdoiffkdikaaGreatDoor
end
