/- What the reference draws for laws on rows; rows compared by the laws. -/
import Derived.Test.YtelgbmebjickeaaDrawR
import Derived.Test.YtelgbmebjickeaaRowLaw
import Derived.Test.YtelgbmebjickeaaCycEq
namespace Go.Proofs.Ytelgbmebjickeaa
open Go.RowKit

def DrewR (W : World) (e : Ending) (w' : World) : Prop := ∃ (v : Value) (xs : List C8), e = .returned v ∧ xs.length ≤ 13 ∧ OwnsP w' W.heap.size v xs ∧ Below W.heap.size W w'
def DrewRN (W : World) (e : Ending) (w' : World) : Prop := ∃ (v : Value) (xs : List C8) (n : Int), e = .returned (.tuple #[v, .int .i64 n]) ∧ xs.length ≤ 13 ∧ (-1 ≤ n ∧ n ≤ 24) ∧ OwnsP w' W.heap.size v xs ∧ Below W.heap.size W w'
def DrewRR (W : World) (e : Ending) (w' : World) : Prop := ∃ (v v' : Value) (xs ys : List C8), e = .returned (.tuple #[v, v']) ∧ xs.length ≤ 13 ∧ ys.length ≤ 13 ∧ Apart v v' ∧ OwnsP w' W.heap.size v xs ∧ OwnsP w' W.heap.size v' ys ∧ Below W.heap.size W w'
theorem OwnsP.lower {w : World} {B B' : Nat} {v : Value} {ys : List C8} (h : OwnsP w B v ys) (hB : B' ≤ B) : OwnsP w B' v ys :=
  ⟨h.1, h.2.imp id (fun ⟨g, cap, cur, a, b, c⟩ => ⟨g, cap, cur, a, Nat.le_trans hB b, c⟩)⟩
theorem below_open {W w' : World} {o : Obj} (h : (W.alloc o).grownBy w' (some W.heap.size)) : Below W.heap.size W w' :=
  Below.grown ((Below.refl W.heap.size W).alloc (Nat.le_refl _) _) h (by simp) (fun k e => by cases e; exact Nat.le_refl _)
theorem below_rdst {B : Nat} {W w w' : World} {g : Nat} (h : Below B W w) (hg : w.grownBy w' (some g)) (hB : B ≤ g) (hs : B ≤ w.heap.size) : Below B W w' :=
  Below.grown h hg hs (fun k e => by cases e; exact hB)
theorem OwnsP.reader {w w' : World} {B g : Nat} {v : Value} {xs : List C8} (h : OwnsP w B v xs) (hg : w.grownBy w' (some g)) (hB : g < B) : OwnsP w' B v xs :=
  World.ownsRow.kept h hg (Or.inr (fun e => by have := h.own_le _ e; omega))

set_option maxRecDepth 100000 in
theorem drawRowValid_any (a : Option Addr) (len cap B : Nat) (W W0 : World) (hv : HasB W0 B a len) (hbel : Below B W0 W) (hB : B ≤ W.heap.size) (hl : len ≤ 1048576) (hc : len ≤ cap) :
    Calls Try.prog 64 #[.slice a len cap] W (DrewR W) := by
  go_enter Try.func64, Try.ntmps64
  go_wp2_with fail
  refine (open_any _ _ _ _ hl hc).mono ?_
  rintro e w1 ⟨len', hl1, hl2, rfl, rfl⟩
  go_wp2_with fail
  refine (l91Length_any _ W0 B W.heap.size a len' cap 0 (heap_at2 _ _ rfl) (hv.less hl1) (hbel.alloc hB _) hB hl2 (by omega) (by omega)).mono ?_
  rintro e w2 ⟨n, rfl, hn0, hn1, hg2, p2, hp1, hp2, hr2⟩
  have hb2 := below_open hg2
  have hs2 := hg2.size
  rw [World.size_alloc] at hs2
  have HR2 := Lib.hid hr2
  clear hr2 hg2
  go_wp2_with fail
  refine (l91Row_any w2 W0 B W.heap.size a len' cap n p2 HR2.out (hv.less hl1) (hbel.trans (hb2.mono hB)) hB hl2 (by omega) (by omega) hn1).mono ?_
  rintro e w3 ⟨v, xs, rfl, hx, hown, hg3, -⟩
  go_wp2
  go_returns
  exact ⟨v, xs, rfl, hx, hown.lower (by omega), below_rdst hb2 hg3 (Nat.le_refl _) (by omega)⟩
theorem drawTransformOf_any (a : Option Addr) (len cap B : Nat) (W W0 : World) (hv : HasB W0 B a len) (hbel : Below B W0 W) (hB : B ≤ W.heap.size) (hl : len ≤ 1048576) (hc : len ≤ cap) :
    Calls Try.prog 33 #[.slice a len cap] W (DrewR W) := by
  go_enter Try.func33, Try.ntmps33
  go_wp2_with fail
  refine (drawRowValid_any a len cap B W W0 hv hbel hB hl hc).mono ?_
  rintro e w1 ⟨v, xs, rfl, h⟩
  go_wp2
  go_returns
  exact ⟨v, xs, rfl, h⟩
theorem drawTransformBack_any (a : Option Addr) (len cap B : Nat) (W W0 : World) (hv : HasB W0 B a len) (hbel : Below B W0 W) (hB : B ≤ W.heap.size) (hl : len ≤ 1048576) (hc : len ≤ cap) :
    Calls Try.prog 35 #[.slice a len cap] W (DrewR W) := by
  go_enter Try.func35, Try.ntmps35
  go_wp2_with fail
  refine (drawRowValid_any a len cap B W W0 hv hbel hB hl hc).mono ?_
  rintro e w1 ⟨v, xs, rfl, h⟩
  go_wp2
  go_returns
  exact ⟨v, xs, rfl, h⟩

set_option maxRecDepth 100000 in
set_option maxHeartbeats 1000000 in
theorem l91Rows_any (a : Option Addr) (len cap B : Nat) (W W0 : World) (hv : HasB W0 B a len) (hbel : Below B W0 W) (hB : B ≤ W.heap.size) (hl : len ≤ 1048576) (hc : len ≤ cap) :
    Calls Try.prog 49 #[.slice a len cap] W (DrewRR W) := by
  go_enter Try.func49, Try.ntmps49
  go_wp2_with fail
  refine (open_any _ _ _ _ hl hc).mono ?_
  rintro e w1 ⟨len', hl1, hl2, rfl, rfl⟩
  go_wp2_with fail
  refine (l91Length_any _ W0 B W.heap.size a len' cap 0 (heap_at2 _ _ rfl) (hv.less hl1) (hbel.alloc hB _) hB hl2 (by omega) (by omega)).mono ?_
  rintro e w2 ⟨n, rfl, hn0, hn1, hg2, p2, hp1, hp2, hr2⟩
  have hb2 := below_open hg2
  have hs2 := hg2.size
  rw [World.size_alloc] at hs2
  have HR2 := Lib.hid hr2
  clear hr2 hg2
  go_wp2_with fail
  refine (l91Row_any w2 W0 B W.heap.size a len' cap n p2 HR2.out (hv.less hl1) (hbel.trans (hb2.mono hB)) hB hl2 (by omega) (by omega) hn1).mono ?_
  rintro e w3 ⟨v, xs, rfl, hx, hown, hg3, p3, hp3, hp4, hr3⟩
  have hb3 := below_rdst hb2 hg3 (Nat.le_refl _) (by omega)
  have hs3 := hg3.size
  have HR3 := Lib.hid hr3
  clear hr3 hg3
  go_wp2_with fail
  refine (pick_any w3 W0 B W.heap.size a len' cap p3 12 HR3.out (hv.less hl1) (hbel.trans (hb3.mono hB)) hB hl2 (by omega) (by omega) (by omega)).mono ?_
  rintro e w4 ⟨k, dk, rfl, ⟨hk0, hk1, -⟩, hw4⟩
  have hg4 : w3.grownBy w4 (some W.heap.size) := by subst hw4; exact grown_below grown_rd (by repeat' (first | (with_reducible exact Below.refl _ _) | (with_reducible assumption) | (with_reducible refine Below.alloc ?_ ?_ _) | (with_reducible refine below_more ?_ ?_ _ _) | (with_reducible refine below_rd ?_ ?_ _ _) | (with_reducible refine Below.drew ?_) | (with_reducible refine Below.setCell ?_ ?_ _) | go_size))
  have HR4 : Hid (w4.heap[W.heap.size]? = some (rdObj (.slice a len' cap) (p3 + 1))) := by subst hw4; show _ = _; rw [heap_more _ (by simp; omega)]; exact heap_rd_same (by omega)
  clear hw4
  have hb4 := below_rdst hb3 hg4 (Nat.le_refl _) (by omega)
  have hs4 := hg4.size
  have hown4 := hown.reader hg4 (by omega)
  clear hg4 hown
  by_cases hk : k = 0
  · subst hk
    clear hk0 hk1
    go_wp2_with fail
    refine (l91Length_any w4 W0 B W.heap.size a len' cap (p3 + 1) HR4.out (hv.less hl1) (hbel.trans (hb4.mono hB)) hB hl2 (by omega) (by omega)).mono ?_
    rintro e w5 ⟨n', rfl, hn2, hn3, hg5, p5, hp5, hp6, hr5⟩
    have hb5 := below_rdst hb4 hg5 (Nat.le_refl _) (by omega)
    have hs5 := hg5.size
    have HR5 := Lib.hid hr5
    have hown5 := hown4.reader hg5 (by omega)
    clear hr5 hg5 hown4
    go_wp2_with fail
    refine (l91Row_any w5 W0 B W.heap.size a len' cap n' p5 HR5.out (hv.less hl1) (hbel.trans (hb5.mono hB)) hB hl2 (by omega) (by omega) hn3).mono ?_
    rintro e w6 ⟨v', ys, rfl, hy, hown', hg6, -⟩
    go_wp2
    go_returns
    exact ⟨v, v', xs, ys, rfl, hx, hy, hown5.apart hown' (Nat.le_refl _), (hown5.reader hg6 (by omega)).lower (by omega), hown'.lower (by omega), below_rdst hb5 hg6 (Nat.le_refl _) (by omega)⟩
  · have e0 : (k == 0) = false := by rw [beq_eq_false_iff_ne]; omega
    go_wp2_with fail
    refine (l91Row_any w4 W0 B W.heap.size a len' cap n (p3 + 1) HR4.out (hv.less hl1) (hbel.trans (hb4.mono hB)) hB hl2 (by omega) (by omega) hn1).mono ?_
    rintro e w6 ⟨v', ys, rfl, hy, hown', hg6, -⟩
    go_wp2
    go_returns
    exact ⟨v, v', xs, ys, rfl, hx, hy, hown4.apart hown' (Nat.le_refl _), (hown4.reader hg6 (by omega)).lower (by omega), hown'.lower (by omega), below_rdst hb4 hg6 (Nat.le_refl _) (by omega)⟩
theorem drawRowTimes_any (a : Option Addr) (len cap B : Nat) (W W0 : World) (hv : HasB W0 B a len) (hbel : Below B W0 W) (hB : B ≤ W.heap.size) (hl : len ≤ 1048576) (hc : len ≤ cap) :
    Calls Try.prog 25 #[.slice a len cap] W (DrewRR W) := by
  go_enter Try.func25, Try.ntmps25
  go_wp2_with fail
  refine (l91Rows_any a len cap B W W0 hv hbel hB hl hc).mono ?_
  rintro e w1 ⟨v, v', xs, ys, rfl, h⟩
  go_wp2
  go_returns
  exact ⟨v, v', xs, ys, rfl, h⟩
theorem drawRowCircular_any (a : Option Addr) (len cap B : Nat) (W W0 : World) (hv : HasB W0 B a len) (hbel : Below B W0 W) (hB : B ≤ W.heap.size) (hl : len ≤ 1048576) (hc : len ≤ cap) :
    Calls Try.prog 36 #[.slice a len cap] W (DrewRR W) := by
  go_enter Try.func36, Try.ntmps36
  go_wp2_with fail
  refine (l91Rows_any a len cap B W W0 hv hbel hB hl hc).mono ?_
  rintro e w1 ⟨v, v', xs, ys, rfl, h⟩
  go_wp2
  go_returns
  exact ⟨v, v', xs, ys, rfl, h⟩

set_option maxRecDepth 100000 in
set_option maxHeartbeats 1000000 in
theorem drawRowShift_any (a : Option Addr) (len cap B : Nat) (W W0 : World) (hv : HasB W0 B a len) (hbel : Below B W0 W) (hB : B ≤ W.heap.size) (hl : len ≤ 1048576) (hc : len ≤ cap) :
    Calls Try.prog 27 #[.slice a len cap] W (DrewRN W) := by
  go_enter Try.func27, Try.ntmps27
  go_wp2_with fail
  refine (open_any _ _ _ _ hl hc).mono ?_
  rintro e w1 ⟨len', hl1, hl2, rfl, rfl⟩
  go_wp2_with fail
  refine (l91Length_any _ W0 B W.heap.size a len' cap 0 (heap_at2 _ _ rfl) (hv.less hl1) (hbel.alloc hB _) hB hl2 (by omega) (by omega)).mono ?_
  rintro e w2 ⟨n, rfl, hn0, hn1, hg2, p2, hp1, hp2, hr2⟩
  have hb2 := below_open hg2
  have hs2 := hg2.size
  rw [World.size_alloc] at hs2
  have HR2 := Lib.hid hr2
  clear hr2 hg2
  go_wp2_with fail
  refine (l91Row_any w2 W0 B W.heap.size a len' cap n p2 HR2.out (hv.less hl1) (hbel.trans (hb2.mono hB)) hB hl2 (by omega) (by omega) hn1).mono ?_
  rintro e w3 ⟨v, xs, rfl, hx, hown, hg3, p3, hp3, hp4, hr3⟩
  have hb3 := below_rdst hb2 hg3 (Nat.le_refl _) (by omega)
  have hs3 := hg3.size
  have HR3 := Lib.hid hr3
  clear hr3 hg3
  go_wp2_with fail
  refine (pick_any w3 W0 B W.heap.size a len' cap p3 25 HR3.out (hv.less hl1) (hbel.trans (hb3.mono hB)) hB hl2 (by omega) (by omega) (by omega)).mono ?_
  rintro e w4 ⟨k, dk, rfl, ⟨hk0, hk1, -⟩, hw4⟩
  have hg4 : w3.grownBy w4 (some W.heap.size) := by subst hw4; exact grown_below grown_rd (by repeat' (first | (with_reducible exact Below.refl _ _) | (with_reducible assumption) | (with_reducible refine Below.alloc ?_ ?_ _) | (with_reducible refine below_more ?_ ?_ _ _) | (with_reducible refine below_rd ?_ ?_ _ _) | (with_reducible refine Below.drew ?_) | (with_reducible refine Below.setCell ?_ ?_ _) | go_size))
  have HR4 : Hid (w4.heap[W.heap.size]? = some (rdObj (.slice a len' cap) (p3 + 1))) := by subst hw4; show _ = _; rw [heap_more _ (by simp; omega)]; exact heap_rd_same (by omega)
  clear hw4
  have hb4 := below_rdst hb3 hg4 (Nat.le_refl _) (by omega)
  have hs4 := hg4.size
  have hown4 := hown.reader hg4 (by omega)
  have hk1 := hk1 (by omega)
  clear hg4 hown
  go_wp2_with fail
  refine (pick_any w4 W0 B W.heap.size a len' cap (p3 + 1) 20 HR4.out (hv.less hl1) (hbel.trans (hb4.mono hB)) hB hl2 (by omega) (by omega) (by omega)).mono ?_
  rintro e w5 ⟨q, dq, rfl, ⟨hq0, hq1, -⟩, hw5⟩
  have hg5 : w4.grownBy w5 (some W.heap.size) := by subst hw5; exact grown_below grown_rd (by repeat' (first | (with_reducible exact Below.refl _ _) | (with_reducible assumption) | (with_reducible refine Below.alloc ?_ ?_ _) | (with_reducible refine below_more ?_ ?_ _ _) | (with_reducible refine below_rd ?_ ?_ _ _) | (with_reducible refine Below.drew ?_) | (with_reducible refine Below.setCell ?_ ?_ _) | go_size))
  clear hw5
  have hb5 := below_rdst hb4 hg5 (Nat.le_refl _) (by omega)
  have hown5 := hown4.reader hg5 (by omega)
  have hq1 := hq1 (by omega)
  clear hg5 hown4
  have d1 : 0 ≤ q / 19 := Int.ediv_nonneg hq0 (by omega)
  have d2 : q / 19 ≤ 1 := by omega
  go_wp2
  go_returns
  exact ⟨v, xs, _, rfl, hx, by omega, hown5.lower (by omega), hb5⟩
set_option maxRecDepth 100000 in
theorem sameCycs_none (a a' : Option Addr) (c c' : Nat) (w : World) :
    Calls Try.prog 26 #[.slice a 0 c, .slice a' 0 c'] w fun e w' => e = .returned (.bool true) ∧ Below w.heap.size w w' := by
  go_enter Try.func26, Try.ntmps26
  go_wp2
  go_rounds 1
  all_goals
    go_ret
    exact ⟨rfl, by repeat' (first | (with_reducible exact Below.refl _ _) | (with_reducible assumption) | (with_reducible refine Below.alloc ?_ ?_ _) | (with_reducible refine below_more ?_ ?_ _ _) | (with_reducible refine below_rd ?_ ?_ _ _) | (with_reducible refine Below.drew ?_) | (with_reducible refine Below.setCell ?_ ?_ _) | go_size)⟩
set_option maxRecDepth 100000 in
set_option maxHeartbeats 1000000 in
theorem sameCycs_some (b b' c c' : Nat) (xs : List C8) (w : World) (hb : b < w.heap.size) (hb' : b' < w.heap.size) (hp : ∀ i, i < xs.length → PtAt w b (i * 8) (xs.getD i C8.zero)) (hp' : ∀ i, i < xs.length → PtAt w b' (i * 8) (xs.getD i C8.zero)) (hn : xs.length ≤ 1048576) :
    Calls Try.prog 26 #[.slice (some ⟨b, 0, none⟩) xs.length c, .slice (some ⟨b', 0, none⟩) xs.length c'] w fun e w' => e = .returned (.bool true) ∧ Below w.heap.size w w' := by
  have HP := Lib.hid hp
  have HP' := Lib.hid hp'
  clear hp hp'
  obtain ⟨n, hn'⟩ : ∃ n, xs.length = n := ⟨_, rfl⟩
  rw [hn'] at hn ⊢
  have HN := Lib.hid hn'
  clear hn'
  go_enter Try.func26, Try.ntmps26
  go_wp2
  go_loopw [5] (fun s wr => ∃ k : Nat, k ≤ n ∧ s = .int .i64 k ∧ ∃ os d, wr = more w os d) (fun s _ => n - (intOf s).toNat)
  case atStart => exact ⟨0, by omega, rfl, _, _, more_self _⟩
  case round =>
    obtain ⟨k, hk, rfl, os, d, rfl⟩ := hrel
    by_cases hlt : k < n
    · have hpk := HP.out k (by rw [HN.out]; exact hlt)
      have hpk' := HP'.out k (by rw [HN.out]; exact hlt)
      obtain ⟨x, hxk⟩ : ∃ x, xs.getD k C8.zero = x := ⟨_, rfl⟩
      rw [hxk] at hpk hpk'
      clear hxk
      obtain ⟨x0, x1, x2, x3, x4, x5, x6, x7⟩ := hpk.cells
      obtain ⟨y0, y1, y2, y3, y4, y5, y6, y7⟩ := hpk'.cells
      have i0 : (0 : Int) ≤ (k : Int) := by omega
      have i1 : (k : Int) < (n : Int) := by omega
      have q1 := eqC_self x
      clear hpk hpk'
      go_wp2_with fail
      go_region_held3 (fun w' => (w'.cell? ⟨b, k * 8, none⟩ = some (.int .i64 x.c0) ∧ w'.cell? ⟨b, k * 8 + 1, none⟩ = some (.int .i64 x.c1) ∧ w'.cell? ⟨b, k * 8 + 2, none⟩ = some (.int .i64 x.c2) ∧ w'.cell? ⟨b, k * 8 + 3, none⟩ = some (.int .i64 x.c3) ∧ w'.cell? ⟨b, k * 8 + 4, none⟩ = some (.int .i64 x.c4) ∧ w'.cell? ⟨b, k * 8 + 5, none⟩ = some (.int .i64 x.c5) ∧ w'.cell? ⟨b, k * 8 + 6, none⟩ = some (.int .i64 x.c6) ∧ w'.cell? ⟨b, k * 8 + 7, none⟩ = some (.int .i64 x.c7)) ∧ (w'.cell? ⟨b', k * 8, none⟩ = some (.int .i64 x.c0) ∧ w'.cell? ⟨b', k * 8 + 1, none⟩ = some (.int .i64 x.c1) ∧ w'.cell? ⟨b', k * 8 + 2, none⟩ = some (.int .i64 x.c2) ∧ w'.cell? ⟨b', k * 8 + 3, none⟩ = some (.int .i64 x.c3) ∧ w'.cell? ⟨b', k * 8 + 4, none⟩ = some (.int .i64 x.c4) ∧ w'.cell? ⟨b', k * 8 + 5, none⟩ = some (.int .i64 x.c5) ∧ w'.cell? ⟨b', k * 8 + 6, none⟩ = some (.int .i64 x.c6) ∧ w'.cell? ⟨b', k * 8 + 7, none⟩ = some (.int .i64 x.c7))) (simp [go_sem, *]) (fail)
      all_goals
        go_wp2
        go_roundw
        case rel => exact ⟨k + 1, by omega, by go_num, _, _, rfl⟩
        case measure => simp [intOf]; omega
    · obtain rfl : k = n := by omega
      go_wp2
      go_ret
      exact ⟨rfl, by repeat' (first | (with_reducible exact Below.refl _ _) | (with_reducible assumption) | (with_reducible refine Below.alloc ?_ ?_ _) | (with_reducible refine below_more ?_ ?_ _ _) | (with_reducible refine below_rd ?_ ?_ _ _) | (with_reducible refine Below.drew ?_) | (with_reducible refine Below.setCell ?_ ?_ _) | go_size)⟩
theorem sameCycs_own {B B' : Nat} {v v' : Value} {xs : List C8} {w : World} (h : OwnsP w B v xs) (h' : OwnsP w B' v' xs) (hn : xs.length ≤ 1048576) :
    Calls Try.prog 26 #[v, v'] w fun e w' => e = .returned (.bool true) ∧ Below w.heap.size w w' := by
  obtain ⟨a, cap, rfl, hp⟩ := h.hasP
  obtain ⟨a', cap', rfl, hp'⟩ := h'.hasP
  rcases hp with rfl | ⟨b, rfl, hb, hz⟩
  · exact sameCycs_none _ _ _ _ w
  · rcases hp' with rfl | ⟨b', rfl, hb', hz'⟩
    · exact sameCycs_none _ _ _ _ w
    · exact sameCycs_some b b' cap cap' xs w hb hb' hz hz' hn
end Go.Proofs.Ytelgbmebjickeaa
