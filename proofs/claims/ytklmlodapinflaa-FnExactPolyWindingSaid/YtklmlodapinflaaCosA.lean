/- Contracts of cosine, of the program, turn by turn. Printed by a program. -/
import Derived.Test.YtklmlodapinflaaSurdF
import Derived.Test.YtklmlodapinflaaCycE
import Derived.Deep.MidRow
import Derived.Deep.WholeRow
import Derived.Deep.RegionWith
import Derived.Deep.RegionHeld3
import Derived.Deep.DeepCutAuto
namespace Go.Proofs.Ytklmlodapinflaa
open Go.RowKit

/-- The table of cosines, under a name that the walk does not open. -/
def tblV : Array Value := #[.int .i64 4, .int .i64 0, .int .i64 0, .int .i64 0, .int .i64 0, .int .i64 1, .int .i64 0, .int .i64 1, .int .i64 0, .int .i64 0, .int .i64 2, .int .i64 0, .int .i64 0, .int .i64 2, .int .i64 0, .int .i64 0, .int .i64 2, .int .i64 0, .int .i64 0, .int .i64 0, .int .i64 0, .int .i64 (-1), .int .i64 0, .int .i64 1, .int .i64 0, .int .i64 0, .int .i64 0, .int .i64 0]
def tblZ : Array Value := #[.int .i64 0, .int .i64 0, .int .i64 0, .int .i64 0, .int .i64 0, .int .i64 0, .int .i64 0, .int .i64 0, .int .i64 0, .int .i64 0, .int .i64 0, .int .i64 0, .int .i64 0, .int .i64 0, .int .i64 0, .int .i64 0, .int .i64 0, .int .i64 0, .int .i64 0, .int .i64 0, .int .i64 0, .int .i64 0, .int .i64 0, .int .i64 0, .int .i64 0, .int .i64 0, .int .i64 0, .int .i64 0]
theorem setRow_alloc_at2 (W : World) (c c' : Array Value) (t : TypeId) (g : Nat) (hg : g = W.heap.size) : (W.alloc (.cells c t)).setRow g c' = W.alloc (.cells c' t) := by subst hg; exact World.setRow_alloc_new W c c' t
theorem infoTbl : (Try.prog.info? 126).map (·.size) = some tblV.size := by kernel_rfl
theorem tblV_one : tblV.all (·.oneCell') = true := by decide +kernel
@[go_sem] theorem tblV_0 : tblV[0]? = some (.int .i64 4) := rfl
@[go_sem] theorem tblV_1 : tblV[1]? = some (.int .i64 0) := rfl
@[go_sem] theorem tblV_2 : tblV[2]? = some (.int .i64 0) := rfl
@[go_sem] theorem tblV_3 : tblV[3]? = some (.int .i64 0) := rfl
@[go_sem] theorem tblV_4 : tblV[4]? = some (.int .i64 0) := rfl
@[go_sem] theorem tblV_5 : tblV[5]? = some (.int .i64 1) := rfl
@[go_sem] theorem tblV_6 : tblV[6]? = some (.int .i64 0) := rfl
@[go_sem] theorem tblV_7 : tblV[7]? = some (.int .i64 1) := rfl
@[go_sem] theorem tblV_8 : tblV[8]? = some (.int .i64 0) := rfl
@[go_sem] theorem tblV_9 : tblV[9]? = some (.int .i64 0) := rfl
@[go_sem] theorem tblV_10 : tblV[10]? = some (.int .i64 2) := rfl
@[go_sem] theorem tblV_11 : tblV[11]? = some (.int .i64 0) := rfl
@[go_sem] theorem tblV_12 : tblV[12]? = some (.int .i64 0) := rfl
@[go_sem] theorem tblV_13 : tblV[13]? = some (.int .i64 2) := rfl
@[go_sem] theorem tblV_14 : tblV[14]? = some (.int .i64 0) := rfl
@[go_sem] theorem tblV_15 : tblV[15]? = some (.int .i64 0) := rfl
@[go_sem] theorem tblV_16 : tblV[16]? = some (.int .i64 2) := rfl
@[go_sem] theorem tblV_17 : tblV[17]? = some (.int .i64 0) := rfl
@[go_sem] theorem tblV_18 : tblV[18]? = some (.int .i64 0) := rfl
@[go_sem] theorem tblV_19 : tblV[19]? = some (.int .i64 0) := rfl
@[go_sem] theorem tblV_20 : tblV[20]? = some (.int .i64 0) := rfl
@[go_sem] theorem tblV_21 : tblV[21]? = some (.int .i64 (-1)) := rfl
@[go_sem] theorem tblV_22 : tblV[22]? = some (.int .i64 0) := rfl
@[go_sem] theorem tblV_23 : tblV[23]? = some (.int .i64 1) := rfl
@[go_sem] theorem tblV_24 : tblV[24]? = some (.int .i64 0) := rfl
@[go_sem] theorem tblV_25 : tblV[25]? = some (.int .i64 0) := rfl
@[go_sem] theorem tblV_26 : tblV[26]? = some (.int .i64 0) := rfl
@[go_sem] theorem tblV_27 : tblV[27]? = some (.int .i64 0) := rfl
set_option maxRecDepth 100000 in
theorem cosine_0 (w : World) :
    Calls Try.prog 102 #[.int .i64 0] w fun e w' => e = .returned (sS (cosT 0)) ∧ Below w.heap.size w w' := by
  go_enter Try.func102, Try.ntmps102
  go_upto_region 1 with fail
  iterate 28 go_step
  refine wpList_store_row (o := ⟨none, .store 126 (.tmp 3) (.tmp 12), _, _, _, _⟩) rfl _ (.tmp 3) (.tmp 12) rfl (w.heap.size + 1) tblV ?_ ?_ 126 tblZ ?_ infoTbl ?_ tblV_one ?_
  focus rfl
  focus rfl
  focus exact heap_alloc2_new _ _ _
  focus rfl
  rw [setRow_alloc_at2 _ _ _ _ _ (by simp)]
  go_wp2_with (go_at_call 104; refine (sscaled_any _ _ _ _ _ _ (by omega)).mono ?_; rintro e w' ⟨rfl, hb⟩; obtain ⟨os, d, rfl⟩ := more_of_below hb; clear hb)
  go_returns
  exact ⟨rfl, by repeat' (first | (with_reducible exact Below.refl _ _) | (with_reducible assumption) | (with_reducible refine Below.alloc ?_ ?_ _) | (with_reducible refine below_more ?_ ?_ _ _) | (with_reducible refine below_rd ?_ ?_ _ _) | (with_reducible refine Below.drew ?_) | (with_reducible refine Below.setCell ?_ ?_ _) | go_size)⟩
set_option maxRecDepth 100000 in
theorem cosine_1 (w : World) :
    Calls Try.prog 102 #[.int .i64 1] w fun e w' => e = .returned (sS (cosT 1)) ∧ Below w.heap.size w w' := by
  go_enter Try.func102, Try.ntmps102
  go_upto_region 1 with fail
  iterate 28 go_step
  refine wpList_store_row (o := ⟨none, .store 126 (.tmp 3) (.tmp 12), _, _, _, _⟩) rfl _ (.tmp 3) (.tmp 12) rfl (w.heap.size + 1) tblV ?_ ?_ 126 tblZ ?_ infoTbl ?_ tblV_one ?_
  focus rfl
  focus rfl
  focus exact heap_alloc2_new _ _ _
  focus rfl
  rw [setRow_alloc_at2 _ _ _ _ _ (by simp)]
  go_wp2_with (go_at_call 104; refine (sscaled_any _ _ _ _ _ _ (by omega)).mono ?_; rintro e w' ⟨rfl, hb⟩; obtain ⟨os, d, rfl⟩ := more_of_below hb; clear hb)
  go_returns
  exact ⟨rfl, by repeat' (first | (with_reducible exact Below.refl _ _) | (with_reducible assumption) | (with_reducible refine Below.alloc ?_ ?_ _) | (with_reducible refine below_more ?_ ?_ _ _) | (with_reducible refine below_rd ?_ ?_ _ _) | (with_reducible refine Below.drew ?_) | (with_reducible refine Below.setCell ?_ ?_ _) | go_size)⟩
set_option maxRecDepth 100000 in
theorem cosine_2 (w : World) :
    Calls Try.prog 102 #[.int .i64 2] w fun e w' => e = .returned (sS (cosT 2)) ∧ Below w.heap.size w w' := by
  go_enter Try.func102, Try.ntmps102
  go_upto_region 1 with fail
  iterate 28 go_step
  refine wpList_store_row (o := ⟨none, .store 126 (.tmp 3) (.tmp 12), _, _, _, _⟩) rfl _ (.tmp 3) (.tmp 12) rfl (w.heap.size + 1) tblV ?_ ?_ 126 tblZ ?_ infoTbl ?_ tblV_one ?_
  focus rfl
  focus rfl
  focus exact heap_alloc2_new _ _ _
  focus rfl
  rw [setRow_alloc_at2 _ _ _ _ _ (by simp)]
  go_wp2_with (go_at_call 104; refine (sscaled_any _ _ _ _ _ _ (by omega)).mono ?_; rintro e w' ⟨rfl, hb⟩; obtain ⟨os, d, rfl⟩ := more_of_below hb; clear hb)
  go_returns
  exact ⟨rfl, by repeat' (first | (with_reducible exact Below.refl _ _) | (with_reducible assumption) | (with_reducible refine Below.alloc ?_ ?_ _) | (with_reducible refine below_more ?_ ?_ _ _) | (with_reducible refine below_rd ?_ ?_ _ _) | (with_reducible refine Below.drew ?_) | (with_reducible refine Below.setCell ?_ ?_ _) | go_size)⟩
set_option maxRecDepth 100000 in
theorem cosine_3 (w : World) :
    Calls Try.prog 102 #[.int .i64 3] w fun e w' => e = .returned (sS (cosT 3)) ∧ Below w.heap.size w w' := by
  go_enter Try.func102, Try.ntmps102
  go_upto_region 1 with fail
  iterate 28 go_step
  refine wpList_store_row (o := ⟨none, .store 126 (.tmp 3) (.tmp 12), _, _, _, _⟩) rfl _ (.tmp 3) (.tmp 12) rfl (w.heap.size + 1) tblV ?_ ?_ 126 tblZ ?_ infoTbl ?_ tblV_one ?_
  focus rfl
  focus rfl
  focus exact heap_alloc2_new _ _ _
  focus rfl
  rw [setRow_alloc_at2 _ _ _ _ _ (by simp)]
  go_wp2_with (go_at_call 104; refine (sscaled_any _ _ _ _ _ _ (by omega)).mono ?_; rintro e w' ⟨rfl, hb⟩; obtain ⟨os, d, rfl⟩ := more_of_below hb; clear hb)
  go_returns
  exact ⟨rfl, by repeat' (first | (with_reducible exact Below.refl _ _) | (with_reducible assumption) | (with_reducible refine Below.alloc ?_ ?_ _) | (with_reducible refine below_more ?_ ?_ _ _) | (with_reducible refine below_rd ?_ ?_ _ _) | (with_reducible refine Below.drew ?_) | (with_reducible refine Below.setCell ?_ ?_ _) | go_size)⟩
set_option maxRecDepth 100000 in
theorem cosine_4 (w : World) :
    Calls Try.prog 102 #[.int .i64 4] w fun e w' => e = .returned (sS (cosT 4)) ∧ Below w.heap.size w w' := by
  go_enter Try.func102, Try.ntmps102
  go_upto_region 1 with fail
  iterate 28 go_step
  refine wpList_store_row (o := ⟨none, .store 126 (.tmp 3) (.tmp 12), _, _, _, _⟩) rfl _ (.tmp 3) (.tmp 12) rfl (w.heap.size + 1) tblV ?_ ?_ 126 tblZ ?_ infoTbl ?_ tblV_one ?_
  focus rfl
  focus rfl
  focus exact heap_alloc2_new _ _ _
  focus rfl
  rw [setRow_alloc_at2 _ _ _ _ _ (by simp)]
  go_wp2_with (go_at_call 104; refine (sscaled_any _ _ _ _ _ _ (by omega)).mono ?_; rintro e w' ⟨rfl, hb⟩; obtain ⟨os, d, rfl⟩ := more_of_below hb; clear hb)
  go_returns
  exact ⟨rfl, by repeat' (first | (with_reducible exact Below.refl _ _) | (with_reducible assumption) | (with_reducible refine Below.alloc ?_ ?_ _) | (with_reducible refine below_more ?_ ?_ _ _) | (with_reducible refine below_rd ?_ ?_ _ _) | (with_reducible refine Below.drew ?_) | (with_reducible refine Below.setCell ?_ ?_ _) | go_size)⟩
set_option maxRecDepth 100000 in
theorem cosine_5 (w : World) :
    Calls Try.prog 102 #[.int .i64 5] w fun e w' => e = .returned (sS (cosT 5)) ∧ Below w.heap.size w w' := by
  go_enter Try.func102, Try.ntmps102
  go_upto_region 1 with fail
  iterate 28 go_step
  refine wpList_store_row (o := ⟨none, .store 126 (.tmp 3) (.tmp 12), _, _, _, _⟩) rfl _ (.tmp 3) (.tmp 12) rfl (w.heap.size + 1) tblV ?_ ?_ 126 tblZ ?_ infoTbl ?_ tblV_one ?_
  focus rfl
  focus rfl
  focus exact heap_alloc2_new _ _ _
  focus rfl
  rw [setRow_alloc_at2 _ _ _ _ _ (by simp)]
  go_wp2_with (go_at_call 104; refine (sscaled_any _ _ _ _ _ _ (by omega)).mono ?_; rintro e w' ⟨rfl, hb⟩; obtain ⟨os, d, rfl⟩ := more_of_below hb; clear hb)
  go_returns
  exact ⟨rfl, by repeat' (first | (with_reducible exact Below.refl _ _) | (with_reducible assumption) | (with_reducible refine Below.alloc ?_ ?_ _) | (with_reducible refine below_more ?_ ?_ _ _) | (with_reducible refine below_rd ?_ ?_ _ _) | (with_reducible refine Below.drew ?_) | (with_reducible refine Below.setCell ?_ ?_ _) | go_size)⟩
set_option maxRecDepth 100000 in
theorem cosine_6 (w : World) :
    Calls Try.prog 102 #[.int .i64 6] w fun e w' => e = .returned (sS (cosT 6)) ∧ Below w.heap.size w w' := by
  go_enter Try.func102, Try.ntmps102
  go_upto_region 1 with fail
  iterate 28 go_step
  refine wpList_store_row (o := ⟨none, .store 126 (.tmp 3) (.tmp 12), _, _, _, _⟩) rfl _ (.tmp 3) (.tmp 12) rfl (w.heap.size + 1) tblV ?_ ?_ 126 tblZ ?_ infoTbl ?_ tblV_one ?_
  focus rfl
  focus rfl
  focus exact heap_alloc2_new _ _ _
  focus rfl
  rw [setRow_alloc_at2 _ _ _ _ _ (by simp)]
  go_wp2_with (go_at_call 104; refine (sscaled_any _ _ _ _ _ _ (by omega)).mono ?_; rintro e w' ⟨rfl, hb⟩; obtain ⟨os, d, rfl⟩ := more_of_below hb; clear hb)
  go_returns
  exact ⟨rfl, by repeat' (first | (with_reducible exact Below.refl _ _) | (with_reducible assumption) | (with_reducible refine Below.alloc ?_ ?_ _) | (with_reducible refine below_more ?_ ?_ _ _) | (with_reducible refine below_rd ?_ ?_ _ _) | (with_reducible refine Below.drew ?_) | (with_reducible refine Below.setCell ?_ ?_ _) | go_size)⟩
set_option maxRecDepth 100000 in
theorem cosine_7 (w : World) :
    Calls Try.prog 102 #[.int .i64 7] w fun e w' => e = .returned (sS (cosT 7)) ∧ Below w.heap.size w w' := by
  go_enter Try.func102, Try.ntmps102
  go_upto_region 1 with fail
  iterate 28 go_step
  refine wpList_store_row (o := ⟨none, .store 126 (.tmp 3) (.tmp 12), _, _, _, _⟩) rfl _ (.tmp 3) (.tmp 12) rfl (w.heap.size + 1) tblV ?_ ?_ 126 tblZ ?_ infoTbl ?_ tblV_one ?_
  focus rfl
  focus rfl
  focus exact heap_alloc2_new _ _ _
  focus rfl
  rw [setRow_alloc_at2 _ _ _ _ _ (by simp)]
  go_wp2_with (go_at_call 104; refine (sscaled_any _ _ _ _ _ _ (by omega)).mono ?_; rintro e w' ⟨rfl, hb⟩; obtain ⟨os, d, rfl⟩ := more_of_below hb; clear hb)
  go_returns
  exact ⟨rfl, by repeat' (first | (with_reducible exact Below.refl _ _) | (with_reducible assumption) | (with_reducible refine Below.alloc ?_ ?_ _) | (with_reducible refine below_more ?_ ?_ _ _) | (with_reducible refine below_rd ?_ ?_ _ _) | (with_reducible refine Below.drew ?_) | (with_reducible refine Below.setCell ?_ ?_ _) | go_size)⟩
set_option maxRecDepth 100000 in
theorem cosine_8 (w : World) :
    Calls Try.prog 102 #[.int .i64 8] w fun e w' => e = .returned (sS (cosT 8)) ∧ Below w.heap.size w w' := by
  go_enter Try.func102, Try.ntmps102
  go_upto_region 1 with fail
  iterate 28 go_step
  refine wpList_store_row (o := ⟨none, .store 126 (.tmp 3) (.tmp 12), _, _, _, _⟩) rfl _ (.tmp 3) (.tmp 12) rfl (w.heap.size + 1) tblV ?_ ?_ 126 tblZ ?_ infoTbl ?_ tblV_one ?_
  focus rfl
  focus rfl
  focus exact heap_alloc2_new _ _ _
  focus rfl
  rw [setRow_alloc_at2 _ _ _ _ _ (by simp)]
  go_wp2_with (go_at_call 104; refine (sscaled_any _ _ _ _ _ _ (by omega)).mono ?_; rintro e w' ⟨rfl, hb⟩; obtain ⟨os, d, rfl⟩ := more_of_below hb; clear hb)
  go_returns
  exact ⟨rfl, by repeat' (first | (with_reducible exact Below.refl _ _) | (with_reducible assumption) | (with_reducible refine Below.alloc ?_ ?_ _) | (with_reducible refine below_more ?_ ?_ _ _) | (with_reducible refine below_rd ?_ ?_ _ _) | (with_reducible refine Below.drew ?_) | (with_reducible refine Below.setCell ?_ ?_ _) | go_size)⟩
set_option maxRecDepth 100000 in
theorem cosine_9 (w : World) :
    Calls Try.prog 102 #[.int .i64 9] w fun e w' => e = .returned (sS (cosT 9)) ∧ Below w.heap.size w w' := by
  go_enter Try.func102, Try.ntmps102
  go_upto_region 1 with fail
  iterate 28 go_step
  refine wpList_store_row (o := ⟨none, .store 126 (.tmp 3) (.tmp 12), _, _, _, _⟩) rfl _ (.tmp 3) (.tmp 12) rfl (w.heap.size + 1) tblV ?_ ?_ 126 tblZ ?_ infoTbl ?_ tblV_one ?_
  focus rfl
  focus rfl
  focus exact heap_alloc2_new _ _ _
  focus rfl
  rw [setRow_alloc_at2 _ _ _ _ _ (by simp)]
  go_wp2_with (go_at_call 104; refine (sscaled_any _ _ _ _ _ _ (by omega)).mono ?_; rintro e w' ⟨rfl, hb⟩; obtain ⟨os, d, rfl⟩ := more_of_below hb; clear hb)
  go_returns
  exact ⟨rfl, by repeat' (first | (with_reducible exact Below.refl _ _) | (with_reducible assumption) | (with_reducible refine Below.alloc ?_ ?_ _) | (with_reducible refine below_more ?_ ?_ _ _) | (with_reducible refine below_rd ?_ ?_ _ _) | (with_reducible refine Below.drew ?_) | (with_reducible refine Below.setCell ?_ ?_ _) | go_size)⟩
set_option maxRecDepth 100000 in
theorem cosine_10 (w : World) :
    Calls Try.prog 102 #[.int .i64 10] w fun e w' => e = .returned (sS (cosT 10)) ∧ Below w.heap.size w w' := by
  go_enter Try.func102, Try.ntmps102
  go_upto_region 1 with fail
  iterate 28 go_step
  refine wpList_store_row (o := ⟨none, .store 126 (.tmp 3) (.tmp 12), _, _, _, _⟩) rfl _ (.tmp 3) (.tmp 12) rfl (w.heap.size + 1) tblV ?_ ?_ 126 tblZ ?_ infoTbl ?_ tblV_one ?_
  focus rfl
  focus rfl
  focus exact heap_alloc2_new _ _ _
  focus rfl
  rw [setRow_alloc_at2 _ _ _ _ _ (by simp)]
  go_wp2_with (go_at_call 104; refine (sscaled_any _ _ _ _ _ _ (by omega)).mono ?_; rintro e w' ⟨rfl, hb⟩; obtain ⟨os, d, rfl⟩ := more_of_below hb; clear hb)
  go_returns
  exact ⟨rfl, by repeat' (first | (with_reducible exact Below.refl _ _) | (with_reducible assumption) | (with_reducible refine Below.alloc ?_ ?_ _) | (with_reducible refine below_more ?_ ?_ _ _) | (with_reducible refine below_rd ?_ ?_ _ _) | (with_reducible refine Below.drew ?_) | (with_reducible refine Below.setCell ?_ ?_ _) | go_size)⟩
set_option maxRecDepth 100000 in
theorem cosine_11 (w : World) :
    Calls Try.prog 102 #[.int .i64 11] w fun e w' => e = .returned (sS (cosT 11)) ∧ Below w.heap.size w w' := by
  go_enter Try.func102, Try.ntmps102
  go_upto_region 1 with fail
  iterate 28 go_step
  refine wpList_store_row (o := ⟨none, .store 126 (.tmp 3) (.tmp 12), _, _, _, _⟩) rfl _ (.tmp 3) (.tmp 12) rfl (w.heap.size + 1) tblV ?_ ?_ 126 tblZ ?_ infoTbl ?_ tblV_one ?_
  focus rfl
  focus rfl
  focus exact heap_alloc2_new _ _ _
  focus rfl
  rw [setRow_alloc_at2 _ _ _ _ _ (by simp)]
  go_wp2_with (go_at_call 104; refine (sscaled_any _ _ _ _ _ _ (by omega)).mono ?_; rintro e w' ⟨rfl, hb⟩; obtain ⟨os, d, rfl⟩ := more_of_below hb; clear hb)
  go_returns
  exact ⟨rfl, by repeat' (first | (with_reducible exact Below.refl _ _) | (with_reducible assumption) | (with_reducible refine Below.alloc ?_ ?_ _) | (with_reducible refine below_more ?_ ?_ _ _) | (with_reducible refine below_rd ?_ ?_ _ _) | (with_reducible refine Below.drew ?_) | (with_reducible refine Below.setCell ?_ ?_ _) | go_size)⟩
set_option maxRecDepth 100000 in
theorem cosine_12 (w : World) :
    Calls Try.prog 102 #[.int .i64 12] w fun e w' => e = .returned (sS (cosT 12)) ∧ Below w.heap.size w w' := by
  go_enter Try.func102, Try.ntmps102
  go_upto_region 1 with fail
  iterate 28 go_step
  refine wpList_store_row (o := ⟨none, .store 126 (.tmp 3) (.tmp 12), _, _, _, _⟩) rfl _ (.tmp 3) (.tmp 12) rfl (w.heap.size + 1) tblV ?_ ?_ 126 tblZ ?_ infoTbl ?_ tblV_one ?_
  focus rfl
  focus rfl
  focus exact heap_alloc2_new _ _ _
  focus rfl
  rw [setRow_alloc_at2 _ _ _ _ _ (by simp)]
  go_wp2_with (go_at_call 104; refine (sscaled_any _ _ _ _ _ _ (by omega)).mono ?_; rintro e w' ⟨rfl, hb⟩; obtain ⟨os, d, rfl⟩ := more_of_below hb; clear hb)
  go_returns
  exact ⟨rfl, by repeat' (first | (with_reducible exact Below.refl _ _) | (with_reducible assumption) | (with_reducible refine Below.alloc ?_ ?_ _) | (with_reducible refine below_more ?_ ?_ _ _) | (with_reducible refine below_rd ?_ ?_ _ _) | (with_reducible refine Below.drew ?_) | (with_reducible refine Below.setCell ?_ ?_ _) | go_size)⟩
set_option maxRecDepth 100000 in
theorem cosine_13 (w : World) :
    Calls Try.prog 102 #[.int .i64 13] w fun e w' => e = .returned (sS (cosT 13)) ∧ Below w.heap.size w w' := by
  go_enter Try.func102, Try.ntmps102
  go_upto_region 1 with fail
  iterate 28 go_step
  refine wpList_store_row (o := ⟨none, .store 126 (.tmp 3) (.tmp 12), _, _, _, _⟩) rfl _ (.tmp 3) (.tmp 12) rfl (w.heap.size + 1) tblV ?_ ?_ 126 tblZ ?_ infoTbl ?_ tblV_one ?_
  focus rfl
  focus rfl
  focus exact heap_alloc2_new _ _ _
  focus rfl
  rw [setRow_alloc_at2 _ _ _ _ _ (by simp)]
  go_wp2_with (first
    | (go_at_call 103; refine (turnOf_any _ (by omega) (by omega) _).mono ?_; rintro e w' ⟨rfl, rfl⟩)
    | (go_at_call 102; refine (cosine_11 _).mono ?_; rintro e w' ⟨rfl, hb⟩; obtain ⟨os, d, rfl⟩ := more_of_below hb; clear hb))
  go_returns
  exact ⟨rfl, by repeat' (first | (with_reducible exact Below.refl _ _) | (with_reducible assumption) | (with_reducible refine Below.alloc ?_ ?_ _) | (with_reducible refine below_more ?_ ?_ _ _) | (with_reducible refine below_rd ?_ ?_ _ _) | (with_reducible refine Below.drew ?_) | (with_reducible refine Below.setCell ?_ ?_ _) | go_size)⟩
set_option maxRecDepth 100000 in
theorem cosine_14 (w : World) :
    Calls Try.prog 102 #[.int .i64 14] w fun e w' => e = .returned (sS (cosT 14)) ∧ Below w.heap.size w w' := by
  go_enter Try.func102, Try.ntmps102
  go_upto_region 1 with fail
  iterate 28 go_step
  refine wpList_store_row (o := ⟨none, .store 126 (.tmp 3) (.tmp 12), _, _, _, _⟩) rfl _ (.tmp 3) (.tmp 12) rfl (w.heap.size + 1) tblV ?_ ?_ 126 tblZ ?_ infoTbl ?_ tblV_one ?_
  focus rfl
  focus rfl
  focus exact heap_alloc2_new _ _ _
  focus rfl
  rw [setRow_alloc_at2 _ _ _ _ _ (by simp)]
  go_wp2_with (first
    | (go_at_call 103; refine (turnOf_any _ (by omega) (by omega) _).mono ?_; rintro e w' ⟨rfl, rfl⟩)
    | (go_at_call 102; refine (cosine_10 _).mono ?_; rintro e w' ⟨rfl, hb⟩; obtain ⟨os, d, rfl⟩ := more_of_below hb; clear hb))
  go_returns
  exact ⟨rfl, by repeat' (first | (with_reducible exact Below.refl _ _) | (with_reducible assumption) | (with_reducible refine Below.alloc ?_ ?_ _) | (with_reducible refine below_more ?_ ?_ _ _) | (with_reducible refine below_rd ?_ ?_ _ _) | (with_reducible refine Below.drew ?_) | (with_reducible refine Below.setCell ?_ ?_ _) | go_size)⟩
set_option maxRecDepth 100000 in
theorem cosine_15 (w : World) :
    Calls Try.prog 102 #[.int .i64 15] w fun e w' => e = .returned (sS (cosT 15)) ∧ Below w.heap.size w w' := by
  go_enter Try.func102, Try.ntmps102
  go_upto_region 1 with fail
  iterate 28 go_step
  refine wpList_store_row (o := ⟨none, .store 126 (.tmp 3) (.tmp 12), _, _, _, _⟩) rfl _ (.tmp 3) (.tmp 12) rfl (w.heap.size + 1) tblV ?_ ?_ 126 tblZ ?_ infoTbl ?_ tblV_one ?_
  focus rfl
  focus rfl
  focus exact heap_alloc2_new _ _ _
  focus rfl
  rw [setRow_alloc_at2 _ _ _ _ _ (by simp)]
  go_wp2_with (first
    | (go_at_call 103; refine (turnOf_any _ (by omega) (by omega) _).mono ?_; rintro e w' ⟨rfl, rfl⟩)
    | (go_at_call 102; refine (cosine_9 _).mono ?_; rintro e w' ⟨rfl, hb⟩; obtain ⟨os, d, rfl⟩ := more_of_below hb; clear hb))
  go_returns
  exact ⟨rfl, by repeat' (first | (with_reducible exact Below.refl _ _) | (with_reducible assumption) | (with_reducible refine Below.alloc ?_ ?_ _) | (with_reducible refine below_more ?_ ?_ _ _) | (with_reducible refine below_rd ?_ ?_ _ _) | (with_reducible refine Below.drew ?_) | (with_reducible refine Below.setCell ?_ ?_ _) | go_size)⟩
set_option maxRecDepth 100000 in
theorem cosine_16 (w : World) :
    Calls Try.prog 102 #[.int .i64 16] w fun e w' => e = .returned (sS (cosT 16)) ∧ Below w.heap.size w w' := by
  go_enter Try.func102, Try.ntmps102
  go_upto_region 1 with fail
  iterate 28 go_step
  refine wpList_store_row (o := ⟨none, .store 126 (.tmp 3) (.tmp 12), _, _, _, _⟩) rfl _ (.tmp 3) (.tmp 12) rfl (w.heap.size + 1) tblV ?_ ?_ 126 tblZ ?_ infoTbl ?_ tblV_one ?_
  focus rfl
  focus rfl
  focus exact heap_alloc2_new _ _ _
  focus rfl
  rw [setRow_alloc_at2 _ _ _ _ _ (by simp)]
  go_wp2_with (first
    | (go_at_call 103; refine (turnOf_any _ (by omega) (by omega) _).mono ?_; rintro e w' ⟨rfl, rfl⟩)
    | (go_at_call 102; refine (cosine_8 _).mono ?_; rintro e w' ⟨rfl, hb⟩; obtain ⟨os, d, rfl⟩ := more_of_below hb; clear hb))
  go_returns
  exact ⟨rfl, by repeat' (first | (with_reducible exact Below.refl _ _) | (with_reducible assumption) | (with_reducible refine Below.alloc ?_ ?_ _) | (with_reducible refine below_more ?_ ?_ _ _) | (with_reducible refine below_rd ?_ ?_ _ _) | (with_reducible refine Below.drew ?_) | (with_reducible refine Below.setCell ?_ ?_ _) | go_size)⟩
set_option maxRecDepth 100000 in
theorem cosine_17 (w : World) :
    Calls Try.prog 102 #[.int .i64 17] w fun e w' => e = .returned (sS (cosT 17)) ∧ Below w.heap.size w w' := by
  go_enter Try.func102, Try.ntmps102
  go_upto_region 1 with fail
  iterate 28 go_step
  refine wpList_store_row (o := ⟨none, .store 126 (.tmp 3) (.tmp 12), _, _, _, _⟩) rfl _ (.tmp 3) (.tmp 12) rfl (w.heap.size + 1) tblV ?_ ?_ 126 tblZ ?_ infoTbl ?_ tblV_one ?_
  focus rfl
  focus rfl
  focus exact heap_alloc2_new _ _ _
  focus rfl
  rw [setRow_alloc_at2 _ _ _ _ _ (by simp)]
  go_wp2_with (first
    | (go_at_call 103; refine (turnOf_any _ (by omega) (by omega) _).mono ?_; rintro e w' ⟨rfl, rfl⟩)
    | (go_at_call 102; refine (cosine_7 _).mono ?_; rintro e w' ⟨rfl, hb⟩; obtain ⟨os, d, rfl⟩ := more_of_below hb; clear hb))
  go_returns
  exact ⟨rfl, by repeat' (first | (with_reducible exact Below.refl _ _) | (with_reducible assumption) | (with_reducible refine Below.alloc ?_ ?_ _) | (with_reducible refine below_more ?_ ?_ _ _) | (with_reducible refine below_rd ?_ ?_ _ _) | (with_reducible refine Below.drew ?_) | (with_reducible refine Below.setCell ?_ ?_ _) | go_size)⟩
set_option maxRecDepth 100000 in
theorem cosine_18 (w : World) :
    Calls Try.prog 102 #[.int .i64 18] w fun e w' => e = .returned (sS (cosT 18)) ∧ Below w.heap.size w w' := by
  go_enter Try.func102, Try.ntmps102
  go_upto_region 1 with fail
  iterate 28 go_step
  refine wpList_store_row (o := ⟨none, .store 126 (.tmp 3) (.tmp 12), _, _, _, _⟩) rfl _ (.tmp 3) (.tmp 12) rfl (w.heap.size + 1) tblV ?_ ?_ 126 tblZ ?_ infoTbl ?_ tblV_one ?_
  focus rfl
  focus rfl
  focus exact heap_alloc2_new _ _ _
  focus rfl
  rw [setRow_alloc_at2 _ _ _ _ _ (by simp)]
  go_wp2_with (first
    | (go_at_call 103; refine (turnOf_any _ (by omega) (by omega) _).mono ?_; rintro e w' ⟨rfl, rfl⟩)
    | (go_at_call 102; refine (cosine_6 _).mono ?_; rintro e w' ⟨rfl, hb⟩; obtain ⟨os, d, rfl⟩ := more_of_below hb; clear hb))
  go_returns
  exact ⟨rfl, by repeat' (first | (with_reducible exact Below.refl _ _) | (with_reducible assumption) | (with_reducible refine Below.alloc ?_ ?_ _) | (with_reducible refine below_more ?_ ?_ _ _) | (with_reducible refine below_rd ?_ ?_ _ _) | (with_reducible refine Below.drew ?_) | (with_reducible refine Below.setCell ?_ ?_ _) | go_size)⟩
set_option maxRecDepth 100000 in
theorem cosine_19 (w : World) :
    Calls Try.prog 102 #[.int .i64 19] w fun e w' => e = .returned (sS (cosT 19)) ∧ Below w.heap.size w w' := by
  go_enter Try.func102, Try.ntmps102
  go_upto_region 1 with fail
  iterate 28 go_step
  refine wpList_store_row (o := ⟨none, .store 126 (.tmp 3) (.tmp 12), _, _, _, _⟩) rfl _ (.tmp 3) (.tmp 12) rfl (w.heap.size + 1) tblV ?_ ?_ 126 tblZ ?_ infoTbl ?_ tblV_one ?_
  focus rfl
  focus rfl
  focus exact heap_alloc2_new _ _ _
  focus rfl
  rw [setRow_alloc_at2 _ _ _ _ _ (by simp)]
  go_wp2_with (first
    | (go_at_call 103; refine (turnOf_any _ (by omega) (by omega) _).mono ?_; rintro e w' ⟨rfl, rfl⟩)
    | (go_at_call 102; refine (cosine_5 _).mono ?_; rintro e w' ⟨rfl, hb⟩; obtain ⟨os, d, rfl⟩ := more_of_below hb; clear hb))
  go_returns
  exact ⟨rfl, by repeat' (first | (with_reducible exact Below.refl _ _) | (with_reducible assumption) | (with_reducible refine Below.alloc ?_ ?_ _) | (with_reducible refine below_more ?_ ?_ _ _) | (with_reducible refine below_rd ?_ ?_ _ _) | (with_reducible refine Below.drew ?_) | (with_reducible refine Below.setCell ?_ ?_ _) | go_size)⟩
set_option maxRecDepth 100000 in
theorem cosine_20 (w : World) :
    Calls Try.prog 102 #[.int .i64 20] w fun e w' => e = .returned (sS (cosT 20)) ∧ Below w.heap.size w w' := by
  go_enter Try.func102, Try.ntmps102
  go_upto_region 1 with fail
  iterate 28 go_step
  refine wpList_store_row (o := ⟨none, .store 126 (.tmp 3) (.tmp 12), _, _, _, _⟩) rfl _ (.tmp 3) (.tmp 12) rfl (w.heap.size + 1) tblV ?_ ?_ 126 tblZ ?_ infoTbl ?_ tblV_one ?_
  focus rfl
  focus rfl
  focus exact heap_alloc2_new _ _ _
  focus rfl
  rw [setRow_alloc_at2 _ _ _ _ _ (by simp)]
  go_wp2_with (first
    | (go_at_call 103; refine (turnOf_any _ (by omega) (by omega) _).mono ?_; rintro e w' ⟨rfl, rfl⟩)
    | (go_at_call 102; refine (cosine_4 _).mono ?_; rintro e w' ⟨rfl, hb⟩; obtain ⟨os, d, rfl⟩ := more_of_below hb; clear hb))
  go_returns
  exact ⟨rfl, by repeat' (first | (with_reducible exact Below.refl _ _) | (with_reducible assumption) | (with_reducible refine Below.alloc ?_ ?_ _) | (with_reducible refine below_more ?_ ?_ _ _) | (with_reducible refine below_rd ?_ ?_ _ _) | (with_reducible refine Below.drew ?_) | (with_reducible refine Below.setCell ?_ ?_ _) | go_size)⟩
set_option maxRecDepth 100000 in
theorem cosine_21 (w : World) :
    Calls Try.prog 102 #[.int .i64 21] w fun e w' => e = .returned (sS (cosT 21)) ∧ Below w.heap.size w w' := by
  go_enter Try.func102, Try.ntmps102
  go_upto_region 1 with fail
  iterate 28 go_step
  refine wpList_store_row (o := ⟨none, .store 126 (.tmp 3) (.tmp 12), _, _, _, _⟩) rfl _ (.tmp 3) (.tmp 12) rfl (w.heap.size + 1) tblV ?_ ?_ 126 tblZ ?_ infoTbl ?_ tblV_one ?_
  focus rfl
  focus rfl
  focus exact heap_alloc2_new _ _ _
  focus rfl
  rw [setRow_alloc_at2 _ _ _ _ _ (by simp)]
  go_wp2_with (first
    | (go_at_call 103; refine (turnOf_any _ (by omega) (by omega) _).mono ?_; rintro e w' ⟨rfl, rfl⟩)
    | (go_at_call 102; refine (cosine_3 _).mono ?_; rintro e w' ⟨rfl, hb⟩; obtain ⟨os, d, rfl⟩ := more_of_below hb; clear hb))
  go_returns
  exact ⟨rfl, by repeat' (first | (with_reducible exact Below.refl _ _) | (with_reducible assumption) | (with_reducible refine Below.alloc ?_ ?_ _) | (with_reducible refine below_more ?_ ?_ _ _) | (with_reducible refine below_rd ?_ ?_ _ _) | (with_reducible refine Below.drew ?_) | (with_reducible refine Below.setCell ?_ ?_ _) | go_size)⟩
set_option maxRecDepth 100000 in
theorem cosine_22 (w : World) :
    Calls Try.prog 102 #[.int .i64 22] w fun e w' => e = .returned (sS (cosT 22)) ∧ Below w.heap.size w w' := by
  go_enter Try.func102, Try.ntmps102
  go_upto_region 1 with fail
  iterate 28 go_step
  refine wpList_store_row (o := ⟨none, .store 126 (.tmp 3) (.tmp 12), _, _, _, _⟩) rfl _ (.tmp 3) (.tmp 12) rfl (w.heap.size + 1) tblV ?_ ?_ 126 tblZ ?_ infoTbl ?_ tblV_one ?_
  focus rfl
  focus rfl
  focus exact heap_alloc2_new _ _ _
  focus rfl
  rw [setRow_alloc_at2 _ _ _ _ _ (by simp)]
  go_wp2_with (first
    | (go_at_call 103; refine (turnOf_any _ (by omega) (by omega) _).mono ?_; rintro e w' ⟨rfl, rfl⟩)
    | (go_at_call 102; refine (cosine_2 _).mono ?_; rintro e w' ⟨rfl, hb⟩; obtain ⟨os, d, rfl⟩ := more_of_below hb; clear hb))
  go_returns
  exact ⟨rfl, by repeat' (first | (with_reducible exact Below.refl _ _) | (with_reducible assumption) | (with_reducible refine Below.alloc ?_ ?_ _) | (with_reducible refine below_more ?_ ?_ _ _) | (with_reducible refine below_rd ?_ ?_ _ _) | (with_reducible refine Below.drew ?_) | (with_reducible refine Below.setCell ?_ ?_ _) | go_size)⟩
set_option maxRecDepth 100000 in
theorem cosine_23 (w : World) :
    Calls Try.prog 102 #[.int .i64 23] w fun e w' => e = .returned (sS (cosT 23)) ∧ Below w.heap.size w w' := by
  go_enter Try.func102, Try.ntmps102
  go_upto_region 1 with fail
  iterate 28 go_step
  refine wpList_store_row (o := ⟨none, .store 126 (.tmp 3) (.tmp 12), _, _, _, _⟩) rfl _ (.tmp 3) (.tmp 12) rfl (w.heap.size + 1) tblV ?_ ?_ 126 tblZ ?_ infoTbl ?_ tblV_one ?_
  focus rfl
  focus rfl
  focus exact heap_alloc2_new _ _ _
  focus rfl
  rw [setRow_alloc_at2 _ _ _ _ _ (by simp)]
  go_wp2_with (first
    | (go_at_call 103; refine (turnOf_any _ (by omega) (by omega) _).mono ?_; rintro e w' ⟨rfl, rfl⟩)
    | (go_at_call 102; refine (cosine_1 _).mono ?_; rintro e w' ⟨rfl, hb⟩; obtain ⟨os, d, rfl⟩ := more_of_below hb; clear hb))
  go_returns
  exact ⟨rfl, by repeat' (first | (with_reducible exact Below.refl _ _) | (with_reducible assumption) | (with_reducible refine Below.alloc ?_ ?_ _) | (with_reducible refine below_more ?_ ?_ _ _) | (with_reducible refine below_rd ?_ ?_ _ _) | (with_reducible refine Below.drew ?_) | (with_reducible refine Below.setCell ?_ ?_ _) | go_size)⟩
theorem cosine_any (k : Nat) (hk : k < 24) (w : World) :
    Calls Try.prog 102 #[.int .i64 k] w fun e w' => e = .returned (sS (cosT k)) ∧ Below w.heap.size w w' := by
  rcases lt24 hk with rfl | rfl | rfl | rfl | rfl | rfl | rfl | rfl | rfl | rfl | rfl | rfl | rfl | rfl | rfl | rfl | rfl | rfl | rfl | rfl | rfl | rfl | rfl | rfl
  · exact cosine_0 w
  · exact cosine_1 w
  · exact cosine_2 w
  · exact cosine_3 w
  · exact cosine_4 w
  · exact cosine_5 w
  · exact cosine_6 w
  · exact cosine_7 w
  · exact cosine_8 w
  · exact cosine_9 w
  · exact cosine_10 w
  · exact cosine_11 w
  · exact cosine_12 w
  · exact cosine_13 w
  · exact cosine_14 w
  · exact cosine_15 w
  · exact cosine_16 w
  · exact cosine_17 w
  · exact cosine_18 w
  · exact cosine_19 w
  · exact cosine_20 w
  · exact cosine_21 w
  · exact cosine_22 w
  · exact cosine_23 w
end Go.Proofs.Ytklmlodapinflaa
