/- Where a program ends (the program's own): a step of the pen, and the whole way. -/
import Derived.Test.YthojdoiffkdikaaGreatDoorPlotM
import Derived.Test.YthojdoiffkdikaaGreatDoorPlotHN
import Derived.BigQuiet
namespace Go.Proofs.YthojdoiffkdikaaGreatDoor
open Go.RowKit Go.PlotT

/-- The pen's block. -/
def PB (x y : Int) (q : Nat) (d : Bool) : Obj := .cells #[.int .i64 x, .int .i64 y, .int .i64 q, .bool d] 52 (0, 0)
/-- A world that is another but for one block, and new blocks behind. -/
structure But1 (w wr : World) (b : Nat) (o : Obj) : Prop where
  os : wr.os = w.os
  tape : wr.tape = w.tape
  output : wr.output = w.output
  size : w.heap.size ≤ wr.heap.size
  block : ∀ k, k < w.heap.size → k ≠ b → wr.heap[k]? = w.heap[k]?
  rd : wr.heap[b]? = some o
section
variable {w wr w2 : World} {b : Nat} {o o2 : Obj}
theorem But1.refl (h : w.heap[b]? = some o) : But1 w w b o := ⟨rfl, rfl, rfl, Nat.le_refl _, fun _ _ _ => rfl, h⟩
theorem But1.lt (h : But1 w wr b o) : b < wr.heap.size := (Array.getElem?_eq_some_iff.1 h.rd).1
theorem But1.below {B : Nat} (h : But1 w wr b o) (hb : Below B wr w2) (h1 : b < B) (h2 : w.heap.size ≤ B) : But1 w w2 b o :=
  ⟨hb.os.trans h.os, hb.tape.trans h.tape, hb.output.trans h.output, by have := hb.size; have := h.size; omega, fun k hk hne => (hb.block k (by omega)).trans (h.block k hk hne), (hb.block b h1).trans h.rd⟩
theorem But1.trans (h : But1 w wr b o) (h2 : But1 wr w2 b o2) : But1 w w2 b o2 :=
  ⟨h2.os.trans h.os, h2.tape.trans h.tape, h2.output.trans h.output, by have := h2.size; have := h.size; omega, fun k hk hne => (h2.block k (by have := h.size; omega) hne).trans (h.block k hk hne), h2.rd⟩
theorem But1.toBelow {B : Nat} (h : But1 w wr b o) (hB : B ≤ b) (hbw : B ≤ w.heap.size) : Below B w wr :=
  ⟨h.os, h.tape, h.output, h.size, fun k hk => h.block k (by omega) (by omega)⟩
theorem But1.alloc (h : But1 w wr b o) (o' : Obj) : But1 w (wr.alloc o') b o := h.below ((Below.refl _ wr).alloc (Nat.le_refl _) _) h.lt h.size
theorem But1.drew (h : But1 w wr b o) : But1 w wr.drew b o := ⟨h.os, h.tape, h.output, h.size, h.block, h.rd⟩
theorem But1.store {C : Array Value} {T : TypeId} {fr : Nat × Nat} (h : But1 w wr b (.cells C T fr)) (j : Nat) (v : Value) : But1 w (wr.setCell ⟨b, j, none⟩ v) b (.cells (C.setIfInBounds j v) T fr) := by
  refine ⟨h.os, h.tape, h.output, by rw [World.size_setCell]; exact h.size, fun k hk hne => ?_, ?_⟩
  · rw [Below.heap_setCell _ _ _ _ hne]; exact h.block k hk hne
  · unfold World.setCell
    rw [Array.getElem?_modify, if_pos rfl, h.rd]; rfl
theorem But1.same (h : But1 w wr b o) (h2 : But1 w wr b o2) : o = o2 := Option.some.inj (h.rd.symm.trans h2.rd)
end
theorem PB_c {w : World} {b : Nat} {x y : Int} {q : Nat} {d : Bool} (h : w.heap[b]? = some (PB x y q d)) :
    w.cell? ⟨b, 0, none⟩ = some (.int .i64 x) ∧ w.cell? ⟨b, 1, none⟩ = some (.int .i64 y) ∧ w.cell? ⟨b, 2, none⟩ = some (.int .i64 q) ∧ w.cell? ⟨b, 3, none⟩ = some (.bool d) ∧ ∀ i, w.frozen? ⟨b, i, none⟩ = false := by
  refine ⟨?_, ?_, ?_, ?_, fun i => ?_⟩
  · rw [Lib.cell_of_heap h]; rfl
  · rw [Lib.cell_of_heap h]; rfl
  · rw [Lib.cell_of_heap h]; rfl
  · rw [Lib.cell_of_heap h]; rfl
  · unfold World.frozen?; simp [h, PB]
/-- What a step gives. -/
def DoPost (w : World) (b : Nat) (p : Int × Int × Nat) (e : Ending) (w' : World) : Prop := (∃ v, e = .returned v) ∧ ∃ d, But1 w w' b (PB p.1 p.2.1 p.2.2 d)
set_option maxRecDepth 100000 in
set_option maxHeartbeats 1000000 in
theorem do_up (b : Nat) (x y : Int) (q : Nat) (d : Bool) (w : World) (h : w.heap[b]? = some (PB x y q d)) :
    Calls Tryz.prog 32 #[.pointer (some ⟨b, 0, none⟩), .int .u8 117] w (DoPost w b (x, y, q)) := by
  have hr := But1.refl h
  have hbw := hr.lt
  obtain ⟨c0, c1, c2, c3, hf⟩ := PB_c h
  have f3 := hf 3
  clear hf
  have HR := Lib.hid hr
  clear h hr
  go_enter Tryz.func32, Tryz.ntmps32
  go_wp2_with fail
  go_returns
  exact ⟨⟨_, rfl⟩, false, (HR.out.store 3 (.bool false)).alloc _⟩
set_option maxRecDepth 100000 in
set_option maxHeartbeats 1000000 in
theorem do_down (b : Nat) (x y : Int) (q : Nat) (d : Bool) (w : World) (h : w.heap[b]? = some (PB x y q d)) :
    Calls Tryz.prog 32 #[.pointer (some ⟨b, 0, none⟩), .int .u8 100] w (DoPost w b (x, y, q)) := by
  have hr := But1.refl h
  have hbw := hr.lt
  obtain ⟨c0, c1, c2, c3, hf⟩ := PB_c h
  have f3 := hf 3
  clear hf
  have HR := Lib.hid hr
  clear h hr
  go_enter Tryz.func32, Tryz.ntmps32
  go_wp2_with fail
  go_returns
  exact ⟨⟨_, rfl⟩, true, (HR.out.store 3 (.bool true)).alloc _⟩

set_option maxRecDepth 100000 in
set_option maxHeartbeats 1000000 in
theorem do_turn (b : Nat) (x y : Int) (q : Nat) (hq : q < 4) (d : Bool) (w : World) (h : w.heap[b]? = some (PB x y q d)) :
    Calls Tryz.prog 32 #[.pointer (some ⟨b, 0, none⟩), .int .u8 116] w (DoPost w b (x, y, (q + 1) % 4)) := by
  have hr := But1.refl h
  have hbw := hr.lt
  obtain ⟨c0, c1, c2, c3, hf⟩ := PB_c h
  have f2 := hf 2
  clear hf
  have HR := Lib.hid hr
  clear h hr
  have hq4 : q = 0 ∨ q = 1 ∨ q = 2 ∨ q = 3 := by omega
  rcases hq4 with rfl | rfl | rfl | rfl
  all_goals
    go_enter Tryz.func32, Tryz.ntmps32
    go_wp2_with fail
    go_returns
    exact ⟨⟨_, rfl⟩, d, (HR.out.store 2 _).alloc _⟩
theorem idx_e (w : World) : Calls Tryz.prog 56 #[.string ⟨#[101, 110, 119, 115]⟩, .int .u8 101] w fun e w' => e = .returned (.int .i64 0) ∧ w' = w :=
  (Tryz.strings_IndexByte ⟨#[101, 110, 119, 115]⟩ 101 w).mono fun _ _ h => ⟨h.1.trans (congrArg (fun z => Ending.returned (.int .i64 z)) (by decide)), h.2⟩
theorem idx_n (w : World) : Calls Tryz.prog 56 #[.string ⟨#[101, 110, 119, 115]⟩, .int .u8 110] w fun e w' => e = .returned (.int .i64 1) ∧ w' = w :=
  (Tryz.strings_IndexByte ⟨#[101, 110, 119, 115]⟩ 110 w).mono fun _ _ h => ⟨h.1.trans (congrArg (fun z => Ending.returned (.int .i64 z)) (by decide)), h.2⟩
theorem idx_w (w : World) : Calls Tryz.prog 56 #[.string ⟨#[101, 110, 119, 115]⟩, .int .u8 119] w fun e w' => e = .returned (.int .i64 2) ∧ w' = w :=
  (Tryz.strings_IndexByte ⟨#[101, 110, 119, 115]⟩ 119 w).mono fun _ _ h => ⟨h.1.trans (congrArg (fun z => Ending.returned (.int .i64 z)) (by decide)), h.2⟩
theorem idx_s (w : World) : Calls Tryz.prog 56 #[.string ⟨#[101, 110, 119, 115]⟩, .int .u8 115] w fun e w' => e = .returned (.int .i64 3) ∧ w' = w :=
  (Tryz.strings_IndexByte ⟨#[101, 110, 119, 115]⟩ 115 w).mono fun _ _ h => ⟨h.1.trans (congrArg (fun z => Ending.returned (.int .i64 z)) (by decide)), h.2⟩

set_option maxRecDepth 100000 in
set_option maxHeartbeats 2000000 in
theorem do_e0 (b : Nat) (x y : Int) (hx : -1000 ≤ x ∧ x ≤ 1000) (hy : -1000 ≤ y ∧ y ≤ 1000) (d : Bool) (w : World) (h : w.heap[b]? = some (PB x y 0 d)) :
    Calls Tryz.prog 32 #[.pointer (some ⟨b, 0, none⟩), .int .u8 101] w (DoPost w b (x + (1), y + (0), 0)) := by
  have hr := But1.refl h
  have hbw := hr.lt
  obtain ⟨c0, c1, c2, c3, hf⟩ := PB_c h
  have f0 := hf 0
  have f1 := hf 1
  have c2 : w.cell? ⟨b, 2, none⟩ = some (.int .i64 0) := c2
  clear hf
  have HR := Lib.hid hr
  clear h hr
  have W1 : wrap64 0 = 0 := by unfold wrap64; omega
  have V1 : IntKind.i64.wrap 0 = 0 := IntWalk.i64_in _ (by omega)
  have V2 : IntKind.i64.wrap ((0 : Int).tmod 4) = (0 : Int).tmod 4 := IntWalk.i64_in _ (by decide)
  have WX : wrap64 (x + (1)) = x + (1) := by unfold wrap64; omega
  have WY : wrap64 (y + (0)) = y + (0) := by unfold wrap64; omega
  go_enter Tryz.func32, Tryz.ntmps32
  go_wp2_with fail
  go_region_held3 (fun w' => w'.cell? ⟨b, 2, none⟩ = some (.int .i64 0) ∧ w'.cell? ⟨w.heap.size + 1, 0, none⟩ = some (.int .i64 (1)) ∧ w'.cell? ⟨w.heap.size + 1, 1, none⟩ = some (.int .i64 (0))) (first | assumption | (simp [go_sem, *]; done)) (first
    | (go_at_call 56; refine (idx_e _).mono ?_; rintro e w' ⟨rfl, hw⟩; obtain rfl := hw))
  all_goals
    go_wp2_with fail
    (refine still_tail 20 (by kernel_rfl) (by kernel_rfl) ?_; simp only [List.take_succ_cons, List.take_zero, List.drop_succ_cons, List.drop_zero]; (repeat still_step); try refine wpStill_nil ?_)
    go_wp2_with fail
    go_returns
    refine ⟨⟨_, rfl⟩, d, ?_⟩
    try simp only [Int.add_zero]
    exact (((((HR.out.store 0 _).store 1 _).alloc _).alloc _).alloc _).drew.drew
set_option maxRecDepth 100000 in
set_option maxHeartbeats 2000000 in
theorem do_e1 (b : Nat) (x y : Int) (hx : -1000 ≤ x ∧ x ≤ 1000) (hy : -1000 ≤ y ∧ y ≤ 1000) (d : Bool) (w : World) (h : w.heap[b]? = some (PB x y 1 d)) :
    Calls Tryz.prog 32 #[.pointer (some ⟨b, 0, none⟩), .int .u8 101] w (DoPost w b (x + (0), y + (1), 1)) := by
  have hr := But1.refl h
  have hbw := hr.lt
  obtain ⟨c0, c1, c2, c3, hf⟩ := PB_c h
  have f0 := hf 0
  have f1 := hf 1
  have c2 : w.cell? ⟨b, 2, none⟩ = some (.int .i64 1) := c2
  clear hf
  have HR := Lib.hid hr
  clear h hr
  have W1 : wrap64 1 = 1 := by unfold wrap64; omega
  have V1 : IntKind.i64.wrap 1 = 1 := IntWalk.i64_in _ (by omega)
  have V2 : IntKind.i64.wrap ((1 : Int).tmod 4) = (1 : Int).tmod 4 := IntWalk.i64_in _ (by decide)
  have WX : wrap64 (x + (0)) = x + (0) := by unfold wrap64; omega
  have WY : wrap64 (y + (1)) = y + (1) := by unfold wrap64; omega
  go_enter Tryz.func32, Tryz.ntmps32
  go_wp2_with fail
  go_region_held3 (fun w' => w'.cell? ⟨b, 2, none⟩ = some (.int .i64 1) ∧ w'.cell? ⟨w.heap.size + 1, 2, none⟩ = some (.int .i64 (0)) ∧ w'.cell? ⟨w.heap.size + 1, 3, none⟩ = some (.int .i64 (1))) (first | assumption | (simp [go_sem, *]; done)) (first
    | (go_at_call 56; refine (idx_e _).mono ?_; rintro e w' ⟨rfl, hw⟩; obtain rfl := hw))
  all_goals
    go_wp2_with fail
    (refine still_tail 20 (by kernel_rfl) (by kernel_rfl) ?_; simp only [List.take_succ_cons, List.take_zero, List.drop_succ_cons, List.drop_zero]; (repeat still_step); try refine wpStill_nil ?_)
    go_wp2_with fail
    go_returns
    refine ⟨⟨_, rfl⟩, d, ?_⟩
    try simp only [Int.add_zero]
    exact (((((HR.out.store 0 _).store 1 _).alloc _).alloc _).alloc _).drew.drew
set_option maxRecDepth 100000 in
set_option maxHeartbeats 2000000 in
theorem do_e2 (b : Nat) (x y : Int) (hx : -1000 ≤ x ∧ x ≤ 1000) (hy : -1000 ≤ y ∧ y ≤ 1000) (d : Bool) (w : World) (h : w.heap[b]? = some (PB x y 2 d)) :
    Calls Tryz.prog 32 #[.pointer (some ⟨b, 0, none⟩), .int .u8 101] w (DoPost w b (x + (-1), y + (0), 2)) := by
  have hr := But1.refl h
  have hbw := hr.lt
  obtain ⟨c0, c1, c2, c3, hf⟩ := PB_c h
  have f0 := hf 0
  have f1 := hf 1
  have c2 : w.cell? ⟨b, 2, none⟩ = some (.int .i64 2) := c2
  clear hf
  have HR := Lib.hid hr
  clear h hr
  have W1 : wrap64 2 = 2 := by unfold wrap64; omega
  have V1 : IntKind.i64.wrap 2 = 2 := IntWalk.i64_in _ (by omega)
  have V2 : IntKind.i64.wrap ((2 : Int).tmod 4) = (2 : Int).tmod 4 := IntWalk.i64_in _ (by decide)
  have WX : wrap64 (x + (-1)) = x + (-1) := by unfold wrap64; omega
  have WY : wrap64 (y + (0)) = y + (0) := by unfold wrap64; omega
  go_enter Tryz.func32, Tryz.ntmps32
  go_wp2_with fail
  go_region_held3 (fun w' => w'.cell? ⟨b, 2, none⟩ = some (.int .i64 2) ∧ w'.cell? ⟨w.heap.size + 1, 4, none⟩ = some (.int .i64 (-1)) ∧ w'.cell? ⟨w.heap.size + 1, 5, none⟩ = some (.int .i64 (0))) (first | assumption | (simp [go_sem, *]; done)) (first
    | (go_at_call 56; refine (idx_e _).mono ?_; rintro e w' ⟨rfl, hw⟩; obtain rfl := hw))
  all_goals
    go_wp2_with fail
    (refine still_tail 20 (by kernel_rfl) (by kernel_rfl) ?_; simp only [List.take_succ_cons, List.take_zero, List.drop_succ_cons, List.drop_zero]; (repeat still_step); try refine wpStill_nil ?_)
    go_wp2_with fail
    go_returns
    refine ⟨⟨_, rfl⟩, d, ?_⟩
    try simp only [Int.add_zero]
    exact (((((HR.out.store 0 _).store 1 _).alloc _).alloc _).alloc _).drew.drew
set_option maxRecDepth 100000 in
set_option maxHeartbeats 2000000 in
theorem do_e3 (b : Nat) (x y : Int) (hx : -1000 ≤ x ∧ x ≤ 1000) (hy : -1000 ≤ y ∧ y ≤ 1000) (d : Bool) (w : World) (h : w.heap[b]? = some (PB x y 3 d)) :
    Calls Tryz.prog 32 #[.pointer (some ⟨b, 0, none⟩), .int .u8 101] w (DoPost w b (x + (0), y + (-1), 3)) := by
  have hr := But1.refl h
  have hbw := hr.lt
  obtain ⟨c0, c1, c2, c3, hf⟩ := PB_c h
  have f0 := hf 0
  have f1 := hf 1
  have c2 : w.cell? ⟨b, 2, none⟩ = some (.int .i64 3) := c2
  clear hf
  have HR := Lib.hid hr
  clear h hr
  have W1 : wrap64 3 = 3 := by unfold wrap64; omega
  have V1 : IntKind.i64.wrap 3 = 3 := IntWalk.i64_in _ (by omega)
  have V2 : IntKind.i64.wrap ((3 : Int).tmod 4) = (3 : Int).tmod 4 := IntWalk.i64_in _ (by decide)
  have WX : wrap64 (x + (0)) = x + (0) := by unfold wrap64; omega
  have WY : wrap64 (y + (-1)) = y + (-1) := by unfold wrap64; omega
  go_enter Tryz.func32, Tryz.ntmps32
  go_wp2_with fail
  go_region_held3 (fun w' => w'.cell? ⟨b, 2, none⟩ = some (.int .i64 3) ∧ w'.cell? ⟨w.heap.size + 1, 6, none⟩ = some (.int .i64 (0)) ∧ w'.cell? ⟨w.heap.size + 1, 7, none⟩ = some (.int .i64 (-1))) (first | assumption | (simp [go_sem, *]; done)) (first
    | (go_at_call 56; refine (idx_e _).mono ?_; rintro e w' ⟨rfl, hw⟩; obtain rfl := hw))
  all_goals
    go_wp2_with fail
    (refine still_tail 20 (by kernel_rfl) (by kernel_rfl) ?_; simp only [List.take_succ_cons, List.take_zero, List.drop_succ_cons, List.drop_zero]; (repeat still_step); try refine wpStill_nil ?_)
    go_wp2_with fail
    go_returns
    refine ⟨⟨_, rfl⟩, d, ?_⟩
    try simp only [Int.add_zero]
    exact (((((HR.out.store 0 _).store 1 _).alloc _).alloc _).alloc _).drew.drew
set_option maxRecDepth 100000 in
set_option maxHeartbeats 2000000 in
theorem do_n0 (b : Nat) (x y : Int) (hx : -1000 ≤ x ∧ x ≤ 1000) (hy : -1000 ≤ y ∧ y ≤ 1000) (d : Bool) (w : World) (h : w.heap[b]? = some (PB x y 0 d)) :
    Calls Tryz.prog 32 #[.pointer (some ⟨b, 0, none⟩), .int .u8 110] w (DoPost w b (x + (0), y + (1), 0)) := by
  have hr := But1.refl h
  have hbw := hr.lt
  obtain ⟨c0, c1, c2, c3, hf⟩ := PB_c h
  have f0 := hf 0
  have f1 := hf 1
  have c2 : w.cell? ⟨b, 2, none⟩ = some (.int .i64 0) := c2
  clear hf
  have HR := Lib.hid hr
  clear h hr
  have W1 : wrap64 1 = 1 := by unfold wrap64; omega
  have V1 : IntKind.i64.wrap 1 = 1 := IntWalk.i64_in _ (by omega)
  have V2 : IntKind.i64.wrap ((1 : Int).tmod 4) = (1 : Int).tmod 4 := IntWalk.i64_in _ (by decide)
  have WX : wrap64 (x + (0)) = x + (0) := by unfold wrap64; omega
  have WY : wrap64 (y + (1)) = y + (1) := by unfold wrap64; omega
  go_enter Tryz.func32, Tryz.ntmps32
  go_wp2_with fail
  go_region_held3 (fun w' => w'.cell? ⟨b, 2, none⟩ = some (.int .i64 0) ∧ w'.cell? ⟨w.heap.size + 1, 2, none⟩ = some (.int .i64 (0)) ∧ w'.cell? ⟨w.heap.size + 1, 3, none⟩ = some (.int .i64 (1))) (first | assumption | (simp [go_sem, *]; done)) (first
    | (go_at_call 56; refine (idx_n _).mono ?_; rintro e w' ⟨rfl, hw⟩; obtain rfl := hw))
  all_goals
    go_wp2_with fail
    (refine still_tail 20 (by kernel_rfl) (by kernel_rfl) ?_; simp only [List.take_succ_cons, List.take_zero, List.drop_succ_cons, List.drop_zero]; (repeat still_step); try refine wpStill_nil ?_)
    go_wp2_with fail
    go_returns
    refine ⟨⟨_, rfl⟩, d, ?_⟩
    try simp only [Int.add_zero]
    exact (((((HR.out.store 0 _).store 1 _).alloc _).alloc _).alloc _).drew.drew
set_option maxRecDepth 100000 in
set_option maxHeartbeats 2000000 in
theorem do_n1 (b : Nat) (x y : Int) (hx : -1000 ≤ x ∧ x ≤ 1000) (hy : -1000 ≤ y ∧ y ≤ 1000) (d : Bool) (w : World) (h : w.heap[b]? = some (PB x y 1 d)) :
    Calls Tryz.prog 32 #[.pointer (some ⟨b, 0, none⟩), .int .u8 110] w (DoPost w b (x + (-1), y + (0), 1)) := by
  have hr := But1.refl h
  have hbw := hr.lt
  obtain ⟨c0, c1, c2, c3, hf⟩ := PB_c h
  have f0 := hf 0
  have f1 := hf 1
  have c2 : w.cell? ⟨b, 2, none⟩ = some (.int .i64 1) := c2
  clear hf
  have HR := Lib.hid hr
  clear h hr
  have W1 : wrap64 2 = 2 := by unfold wrap64; omega
  have V1 : IntKind.i64.wrap 2 = 2 := IntWalk.i64_in _ (by omega)
  have V2 : IntKind.i64.wrap ((2 : Int).tmod 4) = (2 : Int).tmod 4 := IntWalk.i64_in _ (by decide)
  have WX : wrap64 (x + (-1)) = x + (-1) := by unfold wrap64; omega
  have WY : wrap64 (y + (0)) = y + (0) := by unfold wrap64; omega
  go_enter Tryz.func32, Tryz.ntmps32
  go_wp2_with fail
  go_region_held3 (fun w' => w'.cell? ⟨b, 2, none⟩ = some (.int .i64 1) ∧ w'.cell? ⟨w.heap.size + 1, 4, none⟩ = some (.int .i64 (-1)) ∧ w'.cell? ⟨w.heap.size + 1, 5, none⟩ = some (.int .i64 (0))) (first | assumption | (simp [go_sem, *]; done)) (first
    | (go_at_call 56; refine (idx_n _).mono ?_; rintro e w' ⟨rfl, hw⟩; obtain rfl := hw))
  all_goals
    go_wp2_with fail
    (refine still_tail 20 (by kernel_rfl) (by kernel_rfl) ?_; simp only [List.take_succ_cons, List.take_zero, List.drop_succ_cons, List.drop_zero]; (repeat still_step); try refine wpStill_nil ?_)
    go_wp2_with fail
    go_returns
    refine ⟨⟨_, rfl⟩, d, ?_⟩
    try simp only [Int.add_zero]
    exact (((((HR.out.store 0 _).store 1 _).alloc _).alloc _).alloc _).drew.drew
set_option maxRecDepth 100000 in
set_option maxHeartbeats 2000000 in
theorem do_n2 (b : Nat) (x y : Int) (hx : -1000 ≤ x ∧ x ≤ 1000) (hy : -1000 ≤ y ∧ y ≤ 1000) (d : Bool) (w : World) (h : w.heap[b]? = some (PB x y 2 d)) :
    Calls Tryz.prog 32 #[.pointer (some ⟨b, 0, none⟩), .int .u8 110] w (DoPost w b (x + (0), y + (-1), 2)) := by
  have hr := But1.refl h
  have hbw := hr.lt
  obtain ⟨c0, c1, c2, c3, hf⟩ := PB_c h
  have f0 := hf 0
  have f1 := hf 1
  have c2 : w.cell? ⟨b, 2, none⟩ = some (.int .i64 2) := c2
  clear hf
  have HR := Lib.hid hr
  clear h hr
  have W1 : wrap64 3 = 3 := by unfold wrap64; omega
  have V1 : IntKind.i64.wrap 3 = 3 := IntWalk.i64_in _ (by omega)
  have V2 : IntKind.i64.wrap ((3 : Int).tmod 4) = (3 : Int).tmod 4 := IntWalk.i64_in _ (by decide)
  have WX : wrap64 (x + (0)) = x + (0) := by unfold wrap64; omega
  have WY : wrap64 (y + (-1)) = y + (-1) := by unfold wrap64; omega
  go_enter Tryz.func32, Tryz.ntmps32
  go_wp2_with fail
  go_region_held3 (fun w' => w'.cell? ⟨b, 2, none⟩ = some (.int .i64 2) ∧ w'.cell? ⟨w.heap.size + 1, 6, none⟩ = some (.int .i64 (0)) ∧ w'.cell? ⟨w.heap.size + 1, 7, none⟩ = some (.int .i64 (-1))) (first | assumption | (simp [go_sem, *]; done)) (first
    | (go_at_call 56; refine (idx_n _).mono ?_; rintro e w' ⟨rfl, hw⟩; obtain rfl := hw))
  all_goals
    go_wp2_with fail
    (refine still_tail 20 (by kernel_rfl) (by kernel_rfl) ?_; simp only [List.take_succ_cons, List.take_zero, List.drop_succ_cons, List.drop_zero]; (repeat still_step); try refine wpStill_nil ?_)
    go_wp2_with fail
    go_returns
    refine ⟨⟨_, rfl⟩, d, ?_⟩
    try simp only [Int.add_zero]
    exact (((((HR.out.store 0 _).store 1 _).alloc _).alloc _).alloc _).drew.drew
set_option maxRecDepth 100000 in
set_option maxHeartbeats 2000000 in
theorem do_n3 (b : Nat) (x y : Int) (hx : -1000 ≤ x ∧ x ≤ 1000) (hy : -1000 ≤ y ∧ y ≤ 1000) (d : Bool) (w : World) (h : w.heap[b]? = some (PB x y 3 d)) :
    Calls Tryz.prog 32 #[.pointer (some ⟨b, 0, none⟩), .int .u8 110] w (DoPost w b (x + (1), y + (0), 3)) := by
  have hr := But1.refl h
  have hbw := hr.lt
  obtain ⟨c0, c1, c2, c3, hf⟩ := PB_c h
  have f0 := hf 0
  have f1 := hf 1
  have c2 : w.cell? ⟨b, 2, none⟩ = some (.int .i64 3) := c2
  clear hf
  have HR := Lib.hid hr
  clear h hr
  have W1 : wrap64 4 = 4 := by unfold wrap64; omega
  have V1 : IntKind.i64.wrap 4 = 4 := IntWalk.i64_in _ (by omega)
  have V2 : IntKind.i64.wrap ((4 : Int).tmod 4) = (4 : Int).tmod 4 := IntWalk.i64_in _ (by decide)
  have WX : wrap64 (x + (1)) = x + (1) := by unfold wrap64; omega
  have WY : wrap64 (y + (0)) = y + (0) := by unfold wrap64; omega
  go_enter Tryz.func32, Tryz.ntmps32
  go_wp2_with fail
  go_region_held3 (fun w' => w'.cell? ⟨b, 2, none⟩ = some (.int .i64 3) ∧ w'.cell? ⟨w.heap.size + 1, 0, none⟩ = some (.int .i64 (1)) ∧ w'.cell? ⟨w.heap.size + 1, 1, none⟩ = some (.int .i64 (0))) (first | assumption | (simp [go_sem, *]; done)) (first
    | (go_at_call 56; refine (idx_n _).mono ?_; rintro e w' ⟨rfl, hw⟩; obtain rfl := hw))
  all_goals
    go_wp2_with fail
    (refine still_tail 20 (by kernel_rfl) (by kernel_rfl) ?_; simp only [List.take_succ_cons, List.take_zero, List.drop_succ_cons, List.drop_zero]; (repeat still_step); try refine wpStill_nil ?_)
    go_wp2_with fail
    go_returns
    refine ⟨⟨_, rfl⟩, d, ?_⟩
    try simp only [Int.add_zero]
    exact (((((HR.out.store 0 _).store 1 _).alloc _).alloc _).alloc _).drew.drew
set_option maxRecDepth 100000 in
set_option maxHeartbeats 2000000 in
theorem do_w0 (b : Nat) (x y : Int) (hx : -1000 ≤ x ∧ x ≤ 1000) (hy : -1000 ≤ y ∧ y ≤ 1000) (d : Bool) (w : World) (h : w.heap[b]? = some (PB x y 0 d)) :
    Calls Tryz.prog 32 #[.pointer (some ⟨b, 0, none⟩), .int .u8 119] w (DoPost w b (x + (-1), y + (0), 0)) := by
  have hr := But1.refl h
  have hbw := hr.lt
  obtain ⟨c0, c1, c2, c3, hf⟩ := PB_c h
  have f0 := hf 0
  have f1 := hf 1
  have c2 : w.cell? ⟨b, 2, none⟩ = some (.int .i64 0) := c2
  clear hf
  have HR := Lib.hid hr
  clear h hr
  have W1 : wrap64 2 = 2 := by unfold wrap64; omega
  have V1 : IntKind.i64.wrap 2 = 2 := IntWalk.i64_in _ (by omega)
  have V2 : IntKind.i64.wrap ((2 : Int).tmod 4) = (2 : Int).tmod 4 := IntWalk.i64_in _ (by decide)
  have WX : wrap64 (x + (-1)) = x + (-1) := by unfold wrap64; omega
  have WY : wrap64 (y + (0)) = y + (0) := by unfold wrap64; omega
  go_enter Tryz.func32, Tryz.ntmps32
  go_wp2_with fail
  go_region_held3 (fun w' => w'.cell? ⟨b, 2, none⟩ = some (.int .i64 0) ∧ w'.cell? ⟨w.heap.size + 1, 4, none⟩ = some (.int .i64 (-1)) ∧ w'.cell? ⟨w.heap.size + 1, 5, none⟩ = some (.int .i64 (0))) (first | assumption | (simp [go_sem, *]; done)) (first
    | (go_at_call 56; refine (idx_w _).mono ?_; rintro e w' ⟨rfl, hw⟩; obtain rfl := hw))
  all_goals
    go_wp2_with fail
    (refine still_tail 20 (by kernel_rfl) (by kernel_rfl) ?_; simp only [List.take_succ_cons, List.take_zero, List.drop_succ_cons, List.drop_zero]; (repeat still_step); try refine wpStill_nil ?_)
    go_wp2_with fail
    go_returns
    refine ⟨⟨_, rfl⟩, d, ?_⟩
    try simp only [Int.add_zero]
    exact (((((HR.out.store 0 _).store 1 _).alloc _).alloc _).alloc _).drew.drew
set_option maxRecDepth 100000 in
set_option maxHeartbeats 2000000 in
theorem do_w1 (b : Nat) (x y : Int) (hx : -1000 ≤ x ∧ x ≤ 1000) (hy : -1000 ≤ y ∧ y ≤ 1000) (d : Bool) (w : World) (h : w.heap[b]? = some (PB x y 1 d)) :
    Calls Tryz.prog 32 #[.pointer (some ⟨b, 0, none⟩), .int .u8 119] w (DoPost w b (x + (0), y + (-1), 1)) := by
  have hr := But1.refl h
  have hbw := hr.lt
  obtain ⟨c0, c1, c2, c3, hf⟩ := PB_c h
  have f0 := hf 0
  have f1 := hf 1
  have c2 : w.cell? ⟨b, 2, none⟩ = some (.int .i64 1) := c2
  clear hf
  have HR := Lib.hid hr
  clear h hr
  have W1 : wrap64 3 = 3 := by unfold wrap64; omega
  have V1 : IntKind.i64.wrap 3 = 3 := IntWalk.i64_in _ (by omega)
  have V2 : IntKind.i64.wrap ((3 : Int).tmod 4) = (3 : Int).tmod 4 := IntWalk.i64_in _ (by decide)
  have WX : wrap64 (x + (0)) = x + (0) := by unfold wrap64; omega
  have WY : wrap64 (y + (-1)) = y + (-1) := by unfold wrap64; omega
  go_enter Tryz.func32, Tryz.ntmps32
  go_wp2_with fail
  go_region_held3 (fun w' => w'.cell? ⟨b, 2, none⟩ = some (.int .i64 1) ∧ w'.cell? ⟨w.heap.size + 1, 6, none⟩ = some (.int .i64 (0)) ∧ w'.cell? ⟨w.heap.size + 1, 7, none⟩ = some (.int .i64 (-1))) (first | assumption | (simp [go_sem, *]; done)) (first
    | (go_at_call 56; refine (idx_w _).mono ?_; rintro e w' ⟨rfl, hw⟩; obtain rfl := hw))
  all_goals
    go_wp2_with fail
    (refine still_tail 20 (by kernel_rfl) (by kernel_rfl) ?_; simp only [List.take_succ_cons, List.take_zero, List.drop_succ_cons, List.drop_zero]; (repeat still_step); try refine wpStill_nil ?_)
    go_wp2_with fail
    go_returns
    refine ⟨⟨_, rfl⟩, d, ?_⟩
    try simp only [Int.add_zero]
    exact (((((HR.out.store 0 _).store 1 _).alloc _).alloc _).alloc _).drew.drew
set_option maxRecDepth 100000 in
set_option maxHeartbeats 2000000 in
theorem do_w2 (b : Nat) (x y : Int) (hx : -1000 ≤ x ∧ x ≤ 1000) (hy : -1000 ≤ y ∧ y ≤ 1000) (d : Bool) (w : World) (h : w.heap[b]? = some (PB x y 2 d)) :
    Calls Tryz.prog 32 #[.pointer (some ⟨b, 0, none⟩), .int .u8 119] w (DoPost w b (x + (1), y + (0), 2)) := by
  have hr := But1.refl h
  have hbw := hr.lt
  obtain ⟨c0, c1, c2, c3, hf⟩ := PB_c h
  have f0 := hf 0
  have f1 := hf 1
  have c2 : w.cell? ⟨b, 2, none⟩ = some (.int .i64 2) := c2
  clear hf
  have HR := Lib.hid hr
  clear h hr
  have W1 : wrap64 4 = 4 := by unfold wrap64; omega
  have V1 : IntKind.i64.wrap 4 = 4 := IntWalk.i64_in _ (by omega)
  have V2 : IntKind.i64.wrap ((4 : Int).tmod 4) = (4 : Int).tmod 4 := IntWalk.i64_in _ (by decide)
  have WX : wrap64 (x + (1)) = x + (1) := by unfold wrap64; omega
  have WY : wrap64 (y + (0)) = y + (0) := by unfold wrap64; omega
  go_enter Tryz.func32, Tryz.ntmps32
  go_wp2_with fail
  go_region_held3 (fun w' => w'.cell? ⟨b, 2, none⟩ = some (.int .i64 2) ∧ w'.cell? ⟨w.heap.size + 1, 0, none⟩ = some (.int .i64 (1)) ∧ w'.cell? ⟨w.heap.size + 1, 1, none⟩ = some (.int .i64 (0))) (first | assumption | (simp [go_sem, *]; done)) (first
    | (go_at_call 56; refine (idx_w _).mono ?_; rintro e w' ⟨rfl, hw⟩; obtain rfl := hw))
  all_goals
    go_wp2_with fail
    (refine still_tail 20 (by kernel_rfl) (by kernel_rfl) ?_; simp only [List.take_succ_cons, List.take_zero, List.drop_succ_cons, List.drop_zero]; (repeat still_step); try refine wpStill_nil ?_)
    go_wp2_with fail
    go_returns
    refine ⟨⟨_, rfl⟩, d, ?_⟩
    try simp only [Int.add_zero]
    exact (((((HR.out.store 0 _).store 1 _).alloc _).alloc _).alloc _).drew.drew
set_option maxRecDepth 100000 in
set_option maxHeartbeats 2000000 in
theorem do_w3 (b : Nat) (x y : Int) (hx : -1000 ≤ x ∧ x ≤ 1000) (hy : -1000 ≤ y ∧ y ≤ 1000) (d : Bool) (w : World) (h : w.heap[b]? = some (PB x y 3 d)) :
    Calls Tryz.prog 32 #[.pointer (some ⟨b, 0, none⟩), .int .u8 119] w (DoPost w b (x + (0), y + (1), 3)) := by
  have hr := But1.refl h
  have hbw := hr.lt
  obtain ⟨c0, c1, c2, c3, hf⟩ := PB_c h
  have f0 := hf 0
  have f1 := hf 1
  have c2 : w.cell? ⟨b, 2, none⟩ = some (.int .i64 3) := c2
  clear hf
  have HR := Lib.hid hr
  clear h hr
  have W1 : wrap64 5 = 5 := by unfold wrap64; omega
  have V1 : IntKind.i64.wrap 5 = 5 := IntWalk.i64_in _ (by omega)
  have V2 : IntKind.i64.wrap ((5 : Int).tmod 4) = (5 : Int).tmod 4 := IntWalk.i64_in _ (by decide)
  have WX : wrap64 (x + (0)) = x + (0) := by unfold wrap64; omega
  have WY : wrap64 (y + (1)) = y + (1) := by unfold wrap64; omega
  go_enter Tryz.func32, Tryz.ntmps32
  go_wp2_with fail
  go_region_held3 (fun w' => w'.cell? ⟨b, 2, none⟩ = some (.int .i64 3) ∧ w'.cell? ⟨w.heap.size + 1, 2, none⟩ = some (.int .i64 (0)) ∧ w'.cell? ⟨w.heap.size + 1, 3, none⟩ = some (.int .i64 (1))) (first | assumption | (simp [go_sem, *]; done)) (first
    | (go_at_call 56; refine (idx_w _).mono ?_; rintro e w' ⟨rfl, hw⟩; obtain rfl := hw))
  all_goals
    go_wp2_with fail
    (refine still_tail 20 (by kernel_rfl) (by kernel_rfl) ?_; simp only [List.take_succ_cons, List.take_zero, List.drop_succ_cons, List.drop_zero]; (repeat still_step); try refine wpStill_nil ?_)
    go_wp2_with fail
    go_returns
    refine ⟨⟨_, rfl⟩, d, ?_⟩
    try simp only [Int.add_zero]
    exact (((((HR.out.store 0 _).store 1 _).alloc _).alloc _).alloc _).drew.drew
set_option maxRecDepth 100000 in
set_option maxHeartbeats 2000000 in
theorem do_s0 (b : Nat) (x y : Int) (hx : -1000 ≤ x ∧ x ≤ 1000) (hy : -1000 ≤ y ∧ y ≤ 1000) (d : Bool) (w : World) (h : w.heap[b]? = some (PB x y 0 d)) :
    Calls Tryz.prog 32 #[.pointer (some ⟨b, 0, none⟩), .int .u8 115] w (DoPost w b (x + (0), y + (-1), 0)) := by
  have hr := But1.refl h
  have hbw := hr.lt
  obtain ⟨c0, c1, c2, c3, hf⟩ := PB_c h
  have f0 := hf 0
  have f1 := hf 1
  have c2 : w.cell? ⟨b, 2, none⟩ = some (.int .i64 0) := c2
  clear hf
  have HR := Lib.hid hr
  clear h hr
  have W1 : wrap64 3 = 3 := by unfold wrap64; omega
  have V1 : IntKind.i64.wrap 3 = 3 := IntWalk.i64_in _ (by omega)
  have V2 : IntKind.i64.wrap ((3 : Int).tmod 4) = (3 : Int).tmod 4 := IntWalk.i64_in _ (by decide)
  have WX : wrap64 (x + (0)) = x + (0) := by unfold wrap64; omega
  have WY : wrap64 (y + (-1)) = y + (-1) := by unfold wrap64; omega
  go_enter Tryz.func32, Tryz.ntmps32
  go_wp2_with fail
  go_region_held3 (fun w' => w'.cell? ⟨b, 2, none⟩ = some (.int .i64 0) ∧ w'.cell? ⟨w.heap.size + 1, 6, none⟩ = some (.int .i64 (0)) ∧ w'.cell? ⟨w.heap.size + 1, 7, none⟩ = some (.int .i64 (-1))) (first | assumption | (simp [go_sem, *]; done)) (first
    | (go_at_call 56; refine (idx_s _).mono ?_; rintro e w' ⟨rfl, hw⟩; obtain rfl := hw))
  all_goals
    go_wp2_with fail
    (refine still_tail 20 (by kernel_rfl) (by kernel_rfl) ?_; simp only [List.take_succ_cons, List.take_zero, List.drop_succ_cons, List.drop_zero]; (repeat still_step); try refine wpStill_nil ?_)
    go_wp2_with fail
    go_returns
    refine ⟨⟨_, rfl⟩, d, ?_⟩
    try simp only [Int.add_zero]
    exact (((((HR.out.store 0 _).store 1 _).alloc _).alloc _).alloc _).drew.drew
set_option maxRecDepth 100000 in
set_option maxHeartbeats 2000000 in
theorem do_s1 (b : Nat) (x y : Int) (hx : -1000 ≤ x ∧ x ≤ 1000) (hy : -1000 ≤ y ∧ y ≤ 1000) (d : Bool) (w : World) (h : w.heap[b]? = some (PB x y 1 d)) :
    Calls Tryz.prog 32 #[.pointer (some ⟨b, 0, none⟩), .int .u8 115] w (DoPost w b (x + (1), y + (0), 1)) := by
  have hr := But1.refl h
  have hbw := hr.lt
  obtain ⟨c0, c1, c2, c3, hf⟩ := PB_c h
  have f0 := hf 0
  have f1 := hf 1
  have c2 : w.cell? ⟨b, 2, none⟩ = some (.int .i64 1) := c2
  clear hf
  have HR := Lib.hid hr
  clear h hr
  have W1 : wrap64 4 = 4 := by unfold wrap64; omega
  have V1 : IntKind.i64.wrap 4 = 4 := IntWalk.i64_in _ (by omega)
  have V2 : IntKind.i64.wrap ((4 : Int).tmod 4) = (4 : Int).tmod 4 := IntWalk.i64_in _ (by decide)
  have WX : wrap64 (x + (1)) = x + (1) := by unfold wrap64; omega
  have WY : wrap64 (y + (0)) = y + (0) := by unfold wrap64; omega
  go_enter Tryz.func32, Tryz.ntmps32
  go_wp2_with fail
  go_region_held3 (fun w' => w'.cell? ⟨b, 2, none⟩ = some (.int .i64 1) ∧ w'.cell? ⟨w.heap.size + 1, 0, none⟩ = some (.int .i64 (1)) ∧ w'.cell? ⟨w.heap.size + 1, 1, none⟩ = some (.int .i64 (0))) (first | assumption | (simp [go_sem, *]; done)) (first
    | (go_at_call 56; refine (idx_s _).mono ?_; rintro e w' ⟨rfl, hw⟩; obtain rfl := hw))
  all_goals
    go_wp2_with fail
    (refine still_tail 20 (by kernel_rfl) (by kernel_rfl) ?_; simp only [List.take_succ_cons, List.take_zero, List.drop_succ_cons, List.drop_zero]; (repeat still_step); try refine wpStill_nil ?_)
    go_wp2_with fail
    go_returns
    refine ⟨⟨_, rfl⟩, d, ?_⟩
    try simp only [Int.add_zero]
    exact (((((HR.out.store 0 _).store 1 _).alloc _).alloc _).alloc _).drew.drew
set_option maxRecDepth 100000 in
set_option maxHeartbeats 2000000 in
theorem do_s2 (b : Nat) (x y : Int) (hx : -1000 ≤ x ∧ x ≤ 1000) (hy : -1000 ≤ y ∧ y ≤ 1000) (d : Bool) (w : World) (h : w.heap[b]? = some (PB x y 2 d)) :
    Calls Tryz.prog 32 #[.pointer (some ⟨b, 0, none⟩), .int .u8 115] w (DoPost w b (x + (0), y + (1), 2)) := by
  have hr := But1.refl h
  have hbw := hr.lt
  obtain ⟨c0, c1, c2, c3, hf⟩ := PB_c h
  have f0 := hf 0
  have f1 := hf 1
  have c2 : w.cell? ⟨b, 2, none⟩ = some (.int .i64 2) := c2
  clear hf
  have HR := Lib.hid hr
  clear h hr
  have W1 : wrap64 5 = 5 := by unfold wrap64; omega
  have V1 : IntKind.i64.wrap 5 = 5 := IntWalk.i64_in _ (by omega)
  have V2 : IntKind.i64.wrap ((5 : Int).tmod 4) = (5 : Int).tmod 4 := IntWalk.i64_in _ (by decide)
  have WX : wrap64 (x + (0)) = x + (0) := by unfold wrap64; omega
  have WY : wrap64 (y + (1)) = y + (1) := by unfold wrap64; omega
  go_enter Tryz.func32, Tryz.ntmps32
  go_wp2_with fail
  go_region_held3 (fun w' => w'.cell? ⟨b, 2, none⟩ = some (.int .i64 2) ∧ w'.cell? ⟨w.heap.size + 1, 2, none⟩ = some (.int .i64 (0)) ∧ w'.cell? ⟨w.heap.size + 1, 3, none⟩ = some (.int .i64 (1))) (first | assumption | (simp [go_sem, *]; done)) (first
    | (go_at_call 56; refine (idx_s _).mono ?_; rintro e w' ⟨rfl, hw⟩; obtain rfl := hw))
  all_goals
    go_wp2_with fail
    (refine still_tail 20 (by kernel_rfl) (by kernel_rfl) ?_; simp only [List.take_succ_cons, List.take_zero, List.drop_succ_cons, List.drop_zero]; (repeat still_step); try refine wpStill_nil ?_)
    go_wp2_with fail
    go_returns
    refine ⟨⟨_, rfl⟩, d, ?_⟩
    try simp only [Int.add_zero]
    exact (((((HR.out.store 0 _).store 1 _).alloc _).alloc _).alloc _).drew.drew
set_option maxRecDepth 100000 in
set_option maxHeartbeats 2000000 in
theorem do_s3 (b : Nat) (x y : Int) (hx : -1000 ≤ x ∧ x ≤ 1000) (hy : -1000 ≤ y ∧ y ≤ 1000) (d : Bool) (w : World) (h : w.heap[b]? = some (PB x y 3 d)) :
    Calls Tryz.prog 32 #[.pointer (some ⟨b, 0, none⟩), .int .u8 115] w (DoPost w b (x + (-1), y + (0), 3)) := by
  have hr := But1.refl h
  have hbw := hr.lt
  obtain ⟨c0, c1, c2, c3, hf⟩ := PB_c h
  have f0 := hf 0
  have f1 := hf 1
  have c2 : w.cell? ⟨b, 2, none⟩ = some (.int .i64 3) := c2
  clear hf
  have HR := Lib.hid hr
  clear h hr
  have W1 : wrap64 6 = 6 := by unfold wrap64; omega
  have V1 : IntKind.i64.wrap 6 = 6 := IntWalk.i64_in _ (by omega)
  have V2 : IntKind.i64.wrap ((6 : Int).tmod 4) = (6 : Int).tmod 4 := IntWalk.i64_in _ (by decide)
  have WX : wrap64 (x + (-1)) = x + (-1) := by unfold wrap64; omega
  have WY : wrap64 (y + (0)) = y + (0) := by unfold wrap64; omega
  go_enter Tryz.func32, Tryz.ntmps32
  go_wp2_with fail
  go_region_held3 (fun w' => w'.cell? ⟨b, 2, none⟩ = some (.int .i64 3) ∧ w'.cell? ⟨w.heap.size + 1, 4, none⟩ = some (.int .i64 (-1)) ∧ w'.cell? ⟨w.heap.size + 1, 5, none⟩ = some (.int .i64 (0))) (first | assumption | (simp [go_sem, *]; done)) (first
    | (go_at_call 56; refine (idx_s _).mono ?_; rintro e w' ⟨rfl, hw⟩; obtain rfl := hw))
  all_goals
    go_wp2_with fail
    (refine still_tail 20 (by kernel_rfl) (by kernel_rfl) ?_; simp only [List.take_succ_cons, List.take_zero, List.drop_succ_cons, List.drop_zero]; (repeat still_step); try refine wpStill_nil ?_)
    go_wp2_with fail
    go_returns
    refine ⟨⟨_, rfl⟩, d, ?_⟩
    try simp only [Int.add_zero]
    exact (((((HR.out.store 0 _).store 1 _).alloc _).alloc _).alloc _).drew.drew

end Go.Proofs.YthojdoiffkdikaaGreatDoor
