/- Tidy designs: the closures, the searches. -/
import Derived.Test.YthojdoiffkdikaaDoorDesA
import Derived.Test.YthojdoiffkdikaaDoorShelf
import Derived.Test.YthojdoiffkdikaaDoorCycEq
namespace Go.Proofs.YthojdoiffkdikaaDoor
open Go.RowKit

@[go_sem] theorem rowW_ne (a : W9) : (rowW a = #[]) = False := by simp [rowW]
@[go_sem] theorem fold_rowW (z a : W9) : Array.foldl (fun (cs : Array Value) (x : Value × Nat) => cs.setIfInBounds x.snd x.fst) #[(rowW z)[0]!, (rowW z)[1]!, (rowW z)[2]!, (rowW z)[3]!, (rowW z)[4]!, (rowW z)[5]!, (rowW z)[6]!, (rowW z)[7]!, (rowW z)[8]!] ((rowW a).zipIdx 0) 0 9 = rowW a := by
  have e : ((rowW a).zipIdx 0) = #[(.int .i64 a.s, 0), (.int .i64 a.r.c0, 1), (.int .i64 a.r.c1, 2), (.int .i64 a.r.c2, 3), (.int .i64 a.r.c3, 4), (.int .i64 a.r.c4, 5), (.int .i64 a.r.c5, 6), (.int .i64 a.r.c6, 7), (.int .i64 a.r.c7, 8)] := by
    simp [rowW]
  rw [e]
  simp [rowW]
instance : Inhabited W9 := ⟨W9.zero⟩
theorem getW (xs : List W9) (i : Nat) : xs[i]! = xs.getD i W9.zero := by
  rw [List.getD_eq_getElem?_getD, List.getElem!_eq_getElem?_getD]; rfl
def encW (x : W9) : List Value := (rowW x).toList
theorem encW_v (x : W9) : Value.agg (encW x).toArray = wv x := by simp [encW]
theorem encW_len (x : W9) : (encW x).length = 9 := rfl
theorem encW_one (x : W9) : ∀ v ∈ encW x, v.oneCell' = true := fun u hu => Array.all_eq_true_iff_forall_mem.1 (rowWL_one x) u (by simpa [encW] using hu)
/-- The first wheel of a speed; the first wheel that is none. -/
def idxS (xs : List W9) (s : Int) : Int := Lib.idxBy (fun _ (y : W9) => decide (y.s = s)) xs default
def idxZ (xs : List W9) : Int := Lib.idxBy (fun _ (y : W9) => !nz y) xs default
theorem beqD (a b : Int) : (a == b) = decide (a = b) := by rw [Bool.eq_iff_iff]; simp
set_option maxHeartbeats 1000000 in
theorem tidied1_any (b : Nat) (s : Int) (x : W9) (W : World) (hb : b < W.heap.size) (hc : W.cell? ⟨b, 0, none⟩ = some (.int .i64 s)) :
    Calls Tryd.prog 114 #[wv x, .pointer (some ⟨b, 0, none⟩)] W fun e w' => e = .returned (.bool (decide (x.s = s))) ∧ Below W.heap.size W w' := by
  have hne : ¬ b = W.heap.size := by omega
  go_enter Tryd.func114, Tryd.ntmps114
  go_wp2
  go_returns
  exact ⟨congrArg (fun z => Ending.returned (.bool z)) (beqD x.s s), by repeat' (first | (with_reducible exact Below.refl _ _) | (with_reducible assumption) | (with_reducible refine Below.alloc ?_ ?_ _) | (with_reducible refine below_more ?_ ?_ _ _) | (with_reducible refine below_rd ?_ ?_ _ _) | (with_reducible refine Below.drew ?_) | (with_reducible refine Below.setCell ?_ ?_ _) | go_size)⟩
set_option maxHeartbeats 1000000 in
theorem tidied2_any (x : W9) (W : World) :
    Calls Tryd.prog 117 #[wv x] W fun e w' => e = .returned (.bool (!nz x)) ∧ Below W.heap.size W w' := by
  have hrun := run_eqlC
  go_enter Tryd.func117, Tryd.ntmps117
  go_wp2
  go_returns
  exact ⟨by simp [nz], by repeat' (first | (with_reducible exact Below.refl _ _) | (with_reducible assumption) | (with_reducible refine Below.alloc ?_ ?_ _) | (with_reducible refine below_more ?_ ?_ _ _) | (with_reducible refine below_rd ?_ ?_ _ _) | (with_reducible refine Below.drew ?_) | (with_reducible refine Below.setCell ?_ ?_ _) | go_size)⟩
theorem idx_cells {w : World} {g : Nat} {xs : List W9} (hl : Lie9 w g 0 xs) : ∀ j, j < xs.length → ∀ i v, (encW xs[j]!)[i]? = some v → w.cell? ⟨g, 0 + j * 9 + i, none⟩ = some v := by
  intro j hj i v hv
  rw [getW] at hv
  exact hl j hj i v hv
theorem indexS_any (g cap b : Nat) (s : Int) (xs : List W9) (w : World) (hg : g < w.heap.size) (hl : Lie9 w g 0 xs) (hn : xs.length ≤ 1048576) (hb : b < w.heap.size) (hc : w.cell? ⟨b, 0, none⟩ = some (.int .i64 s)) :
    Calls Tryd.prog 113 #[.slice (some ⟨g, 0, none⟩) xs.length cap, .func (.func 114) #[] #[.pointer (some ⟨b, 0, none⟩)]] w fun e w' => e = .returned (.int .i64 (idxS xs s)) ∧ Below w.heap.size w w' := by
  have h := AnyQ.slices_IndexFunc Tryd.idxW 9 Tryd.isAgg57 Tryd.sizeOf57 encW encW_len (fun y : W9 => decide (y.s = s)) 114 #[.pointer (some ⟨b, 0, none⟩)] (enters_of Tryd.func114 (by kernel_rfl) rfl) g 0 xs.length cap xs w
    (fun W x hb2 => by
      show Calls _ _ (#[Value.agg (encW x).toArray] ++ _) W _
      rw [encW_v]
      exact (tidied1_any b s x W (by have := hb2.size; omega) ((hb2.cell (p := ⟨b, 0, none⟩) hb).trans hc)).mono fun e w' h => ⟨h.1, hb2.trans (h.2.mono hb2.size)⟩)
    (Nat.le_refl _) (by omega) hg (idx_cells hl)
  rw [List.take_length] at h
  exact h
theorem indexZ_any (g cap : Nat) (xs : List W9) (w : World) (hg : g < w.heap.size) (hl : Lie9 w g 0 xs) (hn : xs.length ≤ 1048576) :
    Calls Tryd.prog 113 #[.slice (some ⟨g, 0, none⟩) xs.length cap, .func (.func 117) #[] #[]] w fun e w' => e = .returned (.int .i64 (idxZ xs)) ∧ Below w.heap.size w w' := by
  have h := AnyQ.slices_IndexFunc Tryd.idxW 9 Tryd.isAgg57 Tryd.sizeOf57 encW encW_len (fun y : W9 => !nz y) 117 #[] (enters_of Tryd.func117 (by kernel_rfl) rfl) g 0 xs.length cap xs w
    (fun W x hb2 => by
      show Calls _ _ (#[Value.agg (encW x).toArray] ++ _) W _
      rw [encW_v]
      exact (tidied2_any x W).mono fun e w' h => ⟨h.1, hb2.trans (h.2.mono hb2.size)⟩)
    (Nat.le_refl _) (by omega) hg (idx_cells hl)
  rw [List.take_length] at h
  exact h
end Go.Proofs.YthojdoiffkdikaaDoor
