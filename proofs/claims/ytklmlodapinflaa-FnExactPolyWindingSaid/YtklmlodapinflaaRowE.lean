/- RowTimes, of the program and of the reference. -/
import Derived.Test.YtklmlodapinflaaRowD
namespace Go.Proofs.Ytklmlodapinflaa
open Go.RowKit

theorem mkCyc0 (n : Nat) (h : n ≤ 1048576) (w : World) : (Instr.makeSlice 49 (.int .i64 0) (.int .i64 (n : Int))).run Try.prog w = .ok (.slice (some ⟨w.heap.size, 0, none⟩) 0 n) (w.alloc (.cells (rowsV (List.replicate n C8.zero)) 25)) := by
  have h0 := zeroC8
  cases hq : Try.prog.info? 25 with
  | none => rw [hq] at h0; cases h0
  | some i =>
    rw [hq] at h0
    simp only [Option.map_some, Option.some.injEq, Prod.mk.injEq] at h0
    have := run_make (P := Try.prog) w 49 25 i (cv C8.zero) Try.underlying49 hq h0.1 .i64 .i64 0 n (by omega) (by omega) (by rw [h0.2.2]; omega) (by omega)
    rw [this, h0.2.1]
    simp only [Int.toNat_natCast, Int.toNat_zero]
    rw [show (cv C8.zero).cells = row C8.zero from rfl, made_rows]
theorem infoC : ∃ i, Try.prog.info? 25 = some i ∧ i.zero = some (cv C8.zero) ∧ i.size = 8 ∧ i.bytes = 64 := by
  have h0 := zeroC8
  cases hq : Try.prog.info? 25 with
  | none => rw [hq] at h0; cases h0
  | some i =>
    rw [hq] at h0
    simp only [Option.map_some, Option.some.injEq, Prod.mk.injEq] at h0
    exact ⟨i, rfl, h0.1, h0.2.1, h0.2.2⟩
/-- What was appended to a row that the call owns is Below, too. -/
theorem below_grown {B : Nat} {a w w' : World} {v : Value} (h : Below B a w) (hg : w.grownBy w' v.ownBlock) (hB : ∀ k, v.ownBlock = some k → B ≤ k) (hs : B ≤ w.heap.size) : Below B a w' :=
  h.trans ⟨hg.os, hg.tape, hg.output, hg.size, fun k hk => hg.block k (by omega) (fun e => by have := hB k e.symm; omega)⟩
theorem OwnsP.own_le {w : World} {B : Nat} {v : Value} {ys : List C8} (h : OwnsP w B v ys) : ∀ k, v.ownBlock = some k → B ≤ k := fun k hk => (World.ownsRow.lt h k hk).1

@[go_sem] theorem fold_row (a : C8) : Array.foldl (fun (cs : Array Value) (x : Value × Nat) => cs.setIfInBounds x.snd x.fst) #[(row C8.zero)[0]!, (row C8.zero)[1]!, (row C8.zero)[2]!, (row C8.zero)[3]!, (row C8.zero)[4]!, (row C8.zero)[5]!, (row C8.zero)[6]!, (row C8.zero)[7]!] ((row a).zipIdx 0) 0 8 = row a := by
  have e : ((row a).zipIdx 0) = #[(.int .i64 a.c0, 0), (.int .i64 a.c1, 1), (.int .i64 a.c2, 2), (.int .i64 a.c3, 3), (.int .i64 a.c4, 4), (.int .i64 a.c5, 5), (.int .i64 a.c6, 6), (.int .i64 a.c7, 7)] := by
    simp [row]
  rw [e]
  simp [row]
theorem heap_at2 {w : World} (o : Obj) (n : Nat) (hn : n = w.heap.size) : (w.alloc o).heap[n]? = some o := by subst hn; exact heap_alloc_new w o
theorem rowL_ones (a : C8) : ∀ u ∈ (row a).toList, u.oneCell' = true := fun u hu => Array.all_eq_true_iff_forall_mem.1 (rowL_one a) u (by simpa using hu)
theorem OwnsP.snoc {w : World} {B : Nat} {v : Value} {ys : List C8} {x : C8} (h : w.ownsRow B 25 8 v (ys.length + 1) ((rowsV ys).toList ++ (row x).toList)) : OwnsP w B v (ys ++ [x]) := by
  unfold OwnsP; rw [rowsV_snoc, List.length_append]; exact h
end Go.Proofs.Ytklmlodapinflaa
