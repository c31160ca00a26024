/- The laws' own comparison of designs. Marks in designs that a reader made; their reading back. The laws' comparison of designs by == of their wheels. -/
import Derived.Test.YthojdoiffkdikaaGreatDoorWheelA
import Derived.Test.YthojdoiffkdikaaGreatDoorRowLaw
import Derived.Deep.RegionHeld3
import Derived.Test.YthojdoiffkdikaaGreatDoorRdD
import Derived.Test.YthojdoiffkdikaaGreatDoorDesB
section -- a part
namespace Go.Proofs.YthojdoiffkdikaaGreatDoor
open Go.RowKit

set_option maxRecDepth 100000 in
theorem eqWheelS_none (a a' : Option Addr) (c c' : Nat) (w : World) :
    Calls Tryz.prog 13 #[.slice a 0 c, .slice a' 0 c'] w fun e w' => e = .returned (.bool true) ∧ Below w.heap.size w w' := by
  go_enter Tryz.func13, Tryz.ntmps13
  go_wp2
  go_rounds 1
  all_goals
    go_ret
    exact ⟨rfl, by repeat' (first | (with_reducible exact Below.refl _ _) | (with_reducible assumption) | (with_reducible refine Below.alloc ?_ ?_ _) | (with_reducible refine below_more ?_ ?_ _ _) | (with_reducible refine below_rd ?_ ?_ _ _) | (with_reducible refine Below.drew ?_) | (with_reducible refine Below.setCell ?_ ?_ _) | go_size)⟩
set_option maxRecDepth 100000 in
set_option maxHeartbeats 1000000 in
theorem eqWheelS_some (b b' c c' : Nat) (xs : List W9) (w : World) (hb : b < w.heap.size) (hb' : b' < w.heap.size) (hp : ∀ i, i < xs.length → WhAt w b (i * 9) (xs.getD i W9.zero)) (hp' : ∀ i, i < xs.length → WhAt w b' (i * 9) (xs.getD i W9.zero)) (hn : xs.length ≤ 1048576) :
    Calls Tryz.prog 13 #[.slice (some ⟨b, 0, none⟩) xs.length c, .slice (some ⟨b', 0, none⟩) xs.length c'] w fun e w' => e = .returned (.bool true) ∧ Below w.heap.size w w' := by
  have HP := Lib.hid hp
  have HP' := Lib.hid hp'
  clear hp hp'
  obtain ⟨n, hn'⟩ : ∃ n, xs.length = n := ⟨_, rfl⟩
  rw [hn'] at hn ⊢
  have HN := Lib.hid hn'
  clear hn'
  go_enter Tryz.func13, Tryz.ntmps13
  go_wp2
  go_loopw [5] (fun s wr => ∃ k : Nat, k ≤ n ∧ s = .int .i64 k ∧ ∃ os d, wr = more w os d) (fun s _ => n - (intOf s).toNat)
  case atStart => exact ⟨0, by omega, rfl, _, _, more_self _⟩
  case round =>
    obtain ⟨k, hk, rfl, os, d, rfl⟩ := hrel
    by_cases hlt : k < n
    · have hpk := HP.out k (by rw [HN.out]; exact hlt)
      have hpk' := HP'.out k (by rw [HN.out]; exact hlt)
      obtain ⟨x, hxk⟩ : ∃ x, xs.getD k W9.zero = x := ⟨_, rfl⟩
      rw [hxk] at hpk hpk'
      clear hxk
      obtain ⟨x0, x1, x2, x3, x4, x5, x6, x7, x8⟩ := hpk.cells
      obtain ⟨y0, y1, y2, y3, y4, y5, y6, y7, y8⟩ := hpk'.cells
      have i0 : (0 : Int) ≤ (k : Int) := by omega
      have i1 : (k : Int) < (n : Int) := by omega
      clear hpk hpk'
      go_wp2_with fail
      go_region_held3 (fun w' => (w'.cell? ⟨b, k * 9, none⟩ = some (.int .i64 x.s) ∧ w'.cell? ⟨b, k * 9 + 1, none⟩ = some (.int .i64 x.r.c0) ∧ w'.cell? ⟨b, k * 9 + 2, none⟩ = some (.int .i64 x.r.c1) ∧ w'.cell? ⟨b, k * 9 + 3, none⟩ = some (.int .i64 x.r.c2) ∧ w'.cell? ⟨b, k * 9 + 4, none⟩ = some (.int .i64 x.r.c3) ∧ w'.cell? ⟨b, k * 9 + 5, none⟩ = some (.int .i64 x.r.c4) ∧ w'.cell? ⟨b, k * 9 + 6, none⟩ = some (.int .i64 x.r.c5) ∧ w'.cell? ⟨b, k * 9 + 7, none⟩ = some (.int .i64 x.r.c6) ∧ w'.cell? ⟨b, k * 9 + 8, none⟩ = some (.int .i64 x.r.c7)) ∧ (w'.cell? ⟨b', k * 9, none⟩ = some (.int .i64 x.s) ∧ w'.cell? ⟨b', k * 9 + 1, none⟩ = some (.int .i64 x.r.c0) ∧ w'.cell? ⟨b', k * 9 + 2, none⟩ = some (.int .i64 x.r.c1) ∧ w'.cell? ⟨b', k * 9 + 3, none⟩ = some (.int .i64 x.r.c2) ∧ w'.cell? ⟨b', k * 9 + 4, none⟩ = some (.int .i64 x.r.c3) ∧ w'.cell? ⟨b', k * 9 + 5, none⟩ = some (.int .i64 x.r.c4) ∧ w'.cell? ⟨b', k * 9 + 6, none⟩ = some (.int .i64 x.r.c5) ∧ w'.cell? ⟨b', k * 9 + 7, none⟩ = some (.int .i64 x.r.c6) ∧ w'.cell? ⟨b', k * 9 + 8, none⟩ = some (.int .i64 x.r.c7))) (simp [go_sem, *])
        (first | (go_at_call 38; refine (eqWheel_same _ _).mono ?_; rintro e w' ⟨rfl, hb⟩; obtain ⟨os, d, rfl⟩ := more_of_below hb; clear hb))
      all_goals
        go_wp2
        go_roundw
        case rel => exact ⟨k + 1, by omega, by go_num, _, _, rfl⟩
        case measure => simp [intOf]; omega
    · obtain rfl : k = n := by omega
      go_wp2
      go_ret
      exact ⟨rfl, by repeat' (first | (with_reducible exact Below.refl _ _) | (with_reducible assumption) | (with_reducible refine Below.alloc ?_ ?_ _) | (with_reducible refine below_more ?_ ?_ _ _) | (with_reducible refine below_rd ?_ ?_ _ _) | (with_reducible refine Below.drew ?_) | (with_reducible refine Below.setCell ?_ ?_ _) | go_size)⟩
theorem eqWheelS_same (a a' : Option Addr) (c c' : Nat) (xs : List W9) (w : World) (h : HasW w a xs) (h' : HasW w a' xs) (hn : xs.length ≤ 1048576) :
    Calls Tryz.prog 13 #[.slice a xs.length c, .slice a' xs.length c'] w fun e w' => e = .returned (.bool true) ∧ Below w.heap.size w w' := by
  rcases h with rfl | ⟨b, rfl, hb, hp⟩
  · exact eqWheelS_none _ _ _ _ w
  · rcases h' with rfl | ⟨b', rfl, hb', hp'⟩
    · exact eqWheelS_none _ _ _ _ w
    · exact eqWheelS_some b b' c c' xs w hb hb' hp hp' hn
end Go.Proofs.YthojdoiffkdikaaGreatDoor
end
section -- a part
namespace Go.Proofs.YthojdoiffkdikaaGreatDoor
open Go.RowKit Go.PlotT

theorem HasW.on {w w' : World} {a : Option Addr} {xs : List W9} (h : HasW w a xs) (hb : Below w.heap.size w w') : HasW w' a xs := by
  obtain ⟨os, d, rfl⟩ := more_of_below hb
  exact h.more os d
theorem OwnsL.lt {w : World} {B : Nat} {v : Value} {ys : List W9} (h : OwnsL w B v ys) : ∀ k, v.ownBlock = some k → B ≤ k ∧ k < w.heap.size := by
  intro k hk
  rcases h with ⟨rfl, -⟩ | ⟨g, cap, cur, rfl, hB, hh, -⟩
  · cases hk
  · cases hk
    exact ⟨hB, (Array.getElem?_eq_some_iff.1 hh).1⟩
theorem grown_below {w w' : World} (h : Below w.heap.size w w') : w.grownBy w' none := by
  obtain ⟨h1, h2, h3, h4, h5⟩ := h
  exact ⟨h1, h2, h3, h4, fun k hk _ => h5 k hk⟩
set_option maxRecDepth 100000 in
set_option maxHeartbeats 1000000 in
theorem heldWheelS_none (a : Option Addr) (cap : Nat) (k : Int) (w : World) :
    Calls Tryz.prog 15 #[.slice a 0 cap, .int .i64 k] w fun e w' => e = .returned (.int .i64 k) ∧ w = w' := by
  go_enter Tryz.func15, Tryz.ntmps15
  go_wp2
  go_rounds 1
  all_goals
    go_ret
    exact ⟨rfl, rfl⟩
set_option maxRecDepth 100000 in
set_option maxHeartbeats 1000000 in
theorem heldWheelS_some (g cap n : Nat) (k : Int) (w : World) (hz : ∀ x, x < n * 9 → w.cell? ⟨g, x, none⟩ = some (.int .i64 (k + x))) (hn : n ≤ 1048576) (hk0 : 0 ≤ k) (hk1 : k ≤ 1000000000) :
    Calls Tryz.prog 15 #[.slice (some ⟨g, 0, none⟩) n cap, .int .i64 k] w fun e w' => e = .returned (.int .i64 (k + 9 * n)) ∧ w = w' := by
  have HZ := Lib.hid hz
  clear hz
  go_enter Tryz.func15, Tryz.ntmps15
  go_wp2
  go_loop [1, 5] (fun q s => ∃ i : Nat, i ≤ n ∧ s = .int .i64 i ∧ q = .int .i64 (k + 9 * i)) (fun _ s => n - (intOf s).toNat)
  case atStart => exact ⟨0, by omega, rfl, by go_num⟩
  case round =>
    obtain ⟨i, hi, rfl, rfl⟩ := hrel
    by_cases hlt : i < n
    · have c0 := HZ.out (i * 9) (by omega)
      rw [show (k + ((i * 9 : Nat) : Int)) = k + 9 * i by omega] at c0
      go_wp2
      go_loop [1, 6] (fun q s => ∃ j : Nat, j ≤ 8 ∧ s = .int .i64 j ∧ q = .int .i64 (k + 9 * i + 1 + j)) (fun _ s => 8 - (intOf s).toNat)
      case atStart => exact ⟨0, by omega, rfl, by go_num⟩
      case round =>
        obtain ⟨j, hj, rfl, rfl⟩ := hrel
        by_cases hltj : j < 8
        · have c1 := HZ.out (i * 9 + 1 + j) (by omega)
          rw [show (k + ((i * 9 + 1 + j : Nat) : Int)) = k + 9 * i + 1 + j by omega] at c1
          go_wp2
          go_round
          case rel => exact ⟨j + 1, by omega, by go_num, by go_num⟩
          case measure => simp [intOf]; omega
        · obtain rfl : j = 8 := by omega
          go_wp2
          go_round
          case rel => exact ⟨i + 1, by omega, by go_num, by go_num⟩
          case measure => simp [intOf]; omega
    · obtain rfl : i = n := by omega
      go_wp2
      go_ret
      exact ⟨rfl, rfl⟩
theorem heldWheelS_any {v : Value} {n : Nat} {k : Int} {w : World} (h : HeldAt w v 9 n k) (hn : n ≤ 1048576) (hk0 : 0 ≤ k) (hk1 : k ≤ 1000000000) :
    Calls Tryz.prog 15 #[v, .int .i64 k] w fun e w' => e = .returned (.int .i64 (k + n * (9 : Nat))) ∧ w = w' := by
  rcases h with ⟨rfl, a, cap, rfl⟩ | ⟨g, cap, rfl, hg, hz⟩
  · refine (heldWheelS_none a cap k w).mono fun e w' h => ⟨h.1.trans (ret_int (by omega)), h.2⟩
  · refine (heldWheelS_some g cap n k w hz hn hk0 hk1).mono fun e w' h => ⟨h.1.trans (ret_int (by omega)), h.2⟩
theorem markWheelL_any {B : Nat} {v : Value} {xs : List W9} {w : World} (h : OwnsL w B v xs) (hn : xs.length ≤ 1048576) (k : Int) (hk0 : 0 ≤ k) (hk1 : k ≤ 1000000000) :
    Calls Tryz.prog 14 #[v, .int .i64 k] w (MarkPost w v 9 xs.length k) := by
  rcases h with ⟨rfl, rfl⟩ | ⟨g, cap, cur, rfl, hb, hg, h1, h2, h3⟩
  · refine (markWheelS_none none 0 k w).mono fun e w' h => ?_
    obtain ⟨rfl, rfl⟩ := h
    exact ⟨ret_int (by simp), ⟨rfl, rfl, rfl, Nat.le_refl _, fun _ _ _ => rfl⟩, Or.inl ⟨rfl, none, 0, rfl⟩⟩
  · have hlt : g < w.heap.size := (Array.getElem?_eq_some_iff.1 hg).1
    have e0 := blk_self hg
    have key := markWheelS_some g cap xs.length cur k w hlt (by omega) hn hk0 hk1
    rw [← e0] at key
    refine key.mono fun e w' h => ?_
    obtain ⟨rfl, rfl⟩ := h
    refine ⟨ret_int (by omega), grown_blk, Or.inr ⟨g, cap, rfl, by rw [size_blk]; exact hlt, fun x hx => ?_⟩⟩
    rw [cell_blk x hlt, mkb_get _ _ _ _ (by omega), if_pos (by omega)]
end Go.Proofs.YthojdoiffkdikaaGreatDoor
end
section -- a part
namespace Go.Proofs.YthojdoiffkdikaaGreatDoor
open Go.RowKit

def eqW9 (a b : W9) : Bool := decide (a.s = b.s) && eqC a.r b.r
@[simp, go_sem] theorem eqW9_self (a : W9) : eqW9 a a = true := by simp [eqW9]
theorem wpartS (x : W9) (w : World) : (part 3 (rowW x) 0).run Tryz.prog w = .ok (.int .i64 x.s) w := by kernel_rfl
theorem wpartR (x : W9) (w : World) : (part 59 (rowW x) 1).run Tryz.prog w = .ok (cv x.r) w := by kernel_rfl
theorem fieldsW : (Tryz.prog.fieldsOf 61).toList = [{ name := "Speed", type := 3, offset := 0, embedded := false, tag := "", pkgPath := "", byteOffset := 0 }, { name := "Radius", type := 59, offset := 1, embedded := false, tag := "", pkgPath := "", byteOffset := 8 }] := by kernel_rfl
theorem run_eqC9 (a b : C8) (w : World) : (Op.equalIn 9999 59 (cv a) (cv b)).run Tryz.prog w = .ok (eqC a b) w := by
  rw [run_equalIn_agg w 9998 59 _ _ (by kernel_rfl) (by kernel_rfl)]
  rw [fieldsC]
  simp only [Op.eqFields, Sem.run_bind, partA, Result.andThen_ok, run_eqA a b w 9996, Sem.run_ite, Sem.run_pure]
  cases eqC a b <;> simp
theorem run_eqW (a b : W9) (w : World) : (Op.equalIn 10000 61 (wv a) (wv b)).run Tryz.prog w = .ok (eqW9 a b) w := by
  rw [run_equalIn_agg w 9999 61 _ _ (by kernel_rfl) (by kernel_rfl)]
  rw [fieldsW]
  simp only [Op.eqFields, Sem.run_bind, wpartS, wpartR, Result.andThen_ok, run_eqC9, run_equalIn_int w _ 3 _ _ _ _ Tryz.underlying3, Sem.run_ite, Sem.run_pure]
  simp only [eqW9]
  cases eqC a.r b.r <;> by_cases h : a.s = b.s <;> simp [h]
@[go_sem] theorem run_neqW (a b : W9) (w : World) : (binOp .neq 61 (wv a) (wv b)).run Tryz.prog w = .ok (.bool (!eqW9 a b)) w := by
  rw [run_neq_struct, run_eqW]; rfl
@[go_sem] theorem guardW (op : BinOp) (x y : Operand) (a b : W9) (w : World) : (eqGuard op 61 x y (wv a) (wv b)).run Tryz.prog w = .ok () w :=
  run_eqGuard_agg w op _ x y _ _ (by kernel_rfl)
attribute [local go_sem ↓] run_neqW
set_option maxRecDepth 100000 in
theorem sameW_none (a a' : Option Addr) (c c' : Nat) (w : World) :
    Calls Tryz.prog 20 #[.slice a 0 c, .slice a' 0 c'] w fun e w' => e = .returned (.bool true) ∧ Below w.heap.size w w' := by
  go_enter Tryz.func20, Tryz.ntmps20
  go_wp2
  go_rounds 1
  all_goals
    go_ret
    exact ⟨rfl, by repeat' (first | (with_reducible exact Below.refl _ _) | (with_reducible assumption) | (with_reducible refine Below.alloc ?_ ?_ _) | (with_reducible refine below_more ?_ ?_ _ _) | (with_reducible refine below_rd ?_ ?_ _ _) | (with_reducible refine Below.drew ?_) | (with_reducible refine Below.setCell ?_ ?_ _) | go_size)⟩
set_option maxRecDepth 100000 in
set_option maxHeartbeats 1000000 in
theorem sameW_some (b b' c c' : Nat) (xs : List W9) (w : World) (hb : b < w.heap.size) (hb' : b' < w.heap.size) (hp : ∀ i, i < xs.length → WhAt w b (i * 9) (xs.getD i W9.zero)) (hp' : ∀ i, i < xs.length → WhAt w b' (i * 9) (xs.getD i W9.zero)) (hn : xs.length ≤ 1048576) :
    Calls Tryz.prog 20 #[.slice (some ⟨b, 0, none⟩) xs.length c, .slice (some ⟨b', 0, none⟩) xs.length c'] w fun e w' => e = .returned (.bool true) ∧ Below w.heap.size w w' := by
  have HP := Lib.hid hp
  have HP' := Lib.hid hp'
  clear hp hp'
  obtain ⟨n, hn'⟩ : ∃ n, xs.length = n := ⟨_, rfl⟩
  rw [hn'] at hn ⊢
  have HN := Lib.hid hn'
  clear hn'
  go_enter Tryz.func20, Tryz.ntmps20
  go_wp2
  go_loopw [5] (fun s wr => ∃ k : Nat, k ≤ n ∧ s = .int .i64 k ∧ ∃ os d, wr = more w os d) (fun s _ => n - (intOf s).toNat)
  case atStart => exact ⟨0, by omega, rfl, _, _, more_self _⟩
  case round =>
    obtain ⟨k, hk, rfl, os, d, rfl⟩ := hrel
    by_cases hlt : k < n
    · have hpk := HP.out k (by rw [HN.out]; exact hlt)
      have hpk' := HP'.out k (by rw [HN.out]; exact hlt)
      obtain ⟨x, hxk⟩ : ∃ x, xs.getD k W9.zero = x := ⟨_, rfl⟩
      rw [hxk] at hpk hpk'
      clear hxk
      obtain ⟨x0, x1, x2, x3, x4, x5, x6, x7, x8⟩ := hpk.cells
      obtain ⟨y0, y1, y2, y3, y4, y5, y6, y7, y8⟩ := hpk'.cells
      have i0 : (0 : Int) ≤ (k : Int) := by omega
      have i1 : (k : Int) < (n : Int) := by omega
      clear hpk hpk'
      go_wp2_with fail
      go_region_held3 (fun w' => (w'.cell? ⟨b, k * 9, none⟩ = some (.int .i64 x.s) ∧ w'.cell? ⟨b, k * 9 + 1, none⟩ = some (.int .i64 x.r.c0) ∧ w'.cell? ⟨b, k * 9 + 2, none⟩ = some (.int .i64 x.r.c1) ∧ w'.cell? ⟨b, k * 9 + 3, none⟩ = some (.int .i64 x.r.c2) ∧ w'.cell? ⟨b, k * 9 + 4, none⟩ = some (.int .i64 x.r.c3) ∧ w'.cell? ⟨b, k * 9 + 5, none⟩ = some (.int .i64 x.r.c4) ∧ w'.cell? ⟨b, k * 9 + 6, none⟩ = some (.int .i64 x.r.c5) ∧ w'.cell? ⟨b, k * 9 + 7, none⟩ = some (.int .i64 x.r.c6) ∧ w'.cell? ⟨b, k * 9 + 8, none⟩ = some (.int .i64 x.r.c7)) ∧ (w'.cell? ⟨b', k * 9, none⟩ = some (.int .i64 x.s) ∧ w'.cell? ⟨b', k * 9 + 1, none⟩ = some (.int .i64 x.r.c0) ∧ w'.cell? ⟨b', k * 9 + 2, none⟩ = some (.int .i64 x.r.c1) ∧ w'.cell? ⟨b', k * 9 + 3, none⟩ = some (.int .i64 x.r.c2) ∧ w'.cell? ⟨b', k * 9 + 4, none⟩ = some (.int .i64 x.r.c3) ∧ w'.cell? ⟨b', k * 9 + 5, none⟩ = some (.int .i64 x.r.c4) ∧ w'.cell? ⟨b', k * 9 + 6, none⟩ = some (.int .i64 x.r.c5) ∧ w'.cell? ⟨b', k * 9 + 7, none⟩ = some (.int .i64 x.r.c6) ∧ w'.cell? ⟨b', k * 9 + 8, none⟩ = some (.int .i64 x.r.c7))) (simp [go_sem, *])
        (fail)
      all_goals
        go_wp2
        go_roundw
        case rel => exact ⟨k + 1, by omega, by go_num, _, _, rfl⟩
        case measure => simp [intOf]; omega
    · obtain rfl : k = n := by omega
      go_wp2
      go_ret
      exact ⟨rfl, by repeat' (first | (with_reducible exact Below.refl _ _) | (with_reducible assumption) | (with_reducible refine Below.alloc ?_ ?_ _) | (with_reducible refine below_more ?_ ?_ _ _) | (with_reducible refine below_rd ?_ ?_ _ _) | (with_reducible refine Below.drew ?_) | (with_reducible refine Below.setCell ?_ ?_ _) | go_size)⟩
theorem sameW_same (a a' : Option Addr) (c c' : Nat) (xs : List W9) (w : World) (h : HasW w a xs) (h' : HasW w a' xs) (hn : xs.length ≤ 1048576) :
    Calls Tryz.prog 20 #[.slice a xs.length c, .slice a' xs.length c'] w fun e w' => e = .returned (.bool true) ∧ Below w.heap.size w w' := by
  rcases h with rfl | ⟨b, rfl, hb, hp⟩
  · exact sameW_none _ _ _ _ w
  · rcases h' with rfl | ⟨b', rfl, hb', hp'⟩
    · exact sameW_none _ _ _ _ w
    · exact sameW_some b b' c c' xs w hb hb' hp hp' hn
end Go.Proofs.YthojdoiffkdikaaGreatDoor
end
