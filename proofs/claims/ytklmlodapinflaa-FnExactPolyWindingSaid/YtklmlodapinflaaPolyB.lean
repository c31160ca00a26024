/- Polygons: PolyValid, of the program and of the reference. PolyArea of the program. PolyArea of the program at whatever list; of the reference. -/
import Derived.Test.YtklmlodapinflaaRowB
import Derived.Test.YtklmlodapinflaaPolyC
import Derived.Test.YtklmlodapinflaaSides
import Derived.Test.YtklmlodapinflaaRowC
import Derived.RangeFuncBox
namespace Go.Proofs.Ytklmlodapinflaa
section
open Go.RowKit

/-- A corner's coefficients are small. -/
abbrev okP (c : C8) : Bool := okM c 100
/-- All points are valid. -/
def pvA (xs : List C8) : Bool := xs.all okP
theorem pvA_iff {xs : List C8} : pvA xs = true ↔ ∀ i, i < xs.length → okP (xs.getD i C8.zero) = true := by
  unfold pvA
  rw [List.all_eq_true]
  constructor
  · intro h i hi
    apply h
    rw [List.getD_eq_getElem?_getD, List.getElem?_eq_getElem hi]; exact List.getElem_mem _
  · intro h x hx
    obtain ⟨i, hi, rfl⟩ := List.getElem_of_mem hx
    have := h i hi
    rw [List.getD_eq_getElem?_getD, List.getElem?_eq_getElem hi] at this
    exact this
theorem pvA_no {xs : List C8} {i : Nat} (hi : i < xs.length) (h : okP (xs.getD i C8.zero) = false) : pvA xs = false := by
  rcases Bool.eq_false_or_eq_true (pvA xs) with h1 | h1
  · rw [pvA_iff.1 h1 i hi] at h; cases h
  · exact h1

/-- A polygon. -/
def plOk (xs : List C8) : Bool := inB xs.length 1 48 && pvA xs
theorem polyValid1_any (c : C8) (w : World) :
    Calls Try.prog 115 #[cv c] w fun e w' => e = .returned (.bool (!okM c 100)) ∧ Below w.heap.size w w' := by
  go_enter Try.func115, Try.ntmps115
  go_wp2_with (go_at_call 66; refine (smallM_any _ 100 (by omega) (by omega) _).mono ?_; rintro e w' ⟨rfl, hb⟩; obtain ⟨os, d, rfl⟩ := more_of_below hb; clear hb)
  go_ret
  exact ⟨rfl, by repeat' (first | (with_reducible exact Below.refl _ _) | (with_reducible assumption) | (with_reducible refine Below.alloc ?_ ?_ _) | (with_reducible refine below_more ?_ ?_ _ _) | (with_reducible refine below_rd ?_ ?_ _ _) | (with_reducible refine Below.drew ?_) | (with_reducible refine Below.setCell ?_ ?_ _) | go_size)⟩
/-- What the search gives. -/
def FoundPost8 (w : World) (xs : List C8) (e : Ending) (w' : World) : Prop := (∃ r : Int, e = .returned (.int .i64 r) ∧ -1 ≤ r ∧ ((0 ≤ r) ↔ pvA xs = false)) ∧ Below w.heap.size w w'
theorem found_none8 {xs : List C8} (h : ∀ i, i < xs.length → okP (xs.getD i C8.zero) = true) : ((0 : Int) ≤ -1) ↔ pvA xs = false := by
  rw [pvA_iff.2 h]; decide
theorem found_some8 {xs : List C8} {k : Nat} (hk : k < xs.length) (h : okP (xs.getD k C8.zero) = false) : ((0 : Int) ≤ (k : Int)) ↔ pvA xs = false := by
  rw [pvA_no hk h]
  exact ⟨fun _ => rfl, fun _ => by omega⟩
set_option maxRecDepth 100000 in
set_option maxHeartbeats 1000000 in
theorem indexFunc8_any (a : Option Addr) (cap : Nat) (xs : List C8) (w : World) (h : HasP w a xs) (hn : xs.length ≤ 1048576) :
    Calls Try.prog 131 #[.slice a xs.length cap, .func (.func 115) #[] #[]] w (FoundPost8 w xs) := by
  rcases h with rfl | ⟨b, rfl, hb, hp⟩
  · go_enter Try.func131, Try.ntmps131
    go_wp2
    go_rounds 1
    all_goals
      go_ret
      exact ⟨⟨-1, rfl, by omega, by decide⟩, by repeat' (first | (with_reducible exact Below.refl _ _) | (with_reducible assumption) | (with_reducible refine Below.alloc ?_ ?_ _) | (with_reducible refine below_more ?_ ?_ _ _) | (with_reducible refine below_rd ?_ ?_ _ _) | (with_reducible refine Below.drew ?_) | (with_reducible refine Below.setCell ?_ ?_ _) | go_size)⟩
  · have HP := Lib.hid hp
    clear hp
    obtain ⟨n, hn'⟩ : ∃ n, xs.length = n := ⟨_, rfl⟩
    rw [hn'] at hn ⊢
    have HN := Lib.hid hn'
    clear hn'
    go_enter Try.func131, Try.ntmps131
    go_wp2
    go_loopw [8] (fun s wr => ∃ k : Nat, k ≤ n ∧ s = .int .i64 k ∧ Hid (∀ i, i < k → okP (xs.getD i C8.zero) = true) ∧ ∃ os d, wr = more w os d) (fun s _ => n - (intOf s).toNat)
    case atStart => exact ⟨0, by omega, rfl, fun i hi => by omega, _, _, more_self _⟩
    case round =>
      obtain ⟨k, hk, rfl, hall, os, d, rfl⟩ := hrel
      by_cases hlt : k < n
      · have hpk := (HP.out k (by rw [HN.out]; exact hlt)).more hb os d
        obtain ⟨x, hxk⟩ : ∃ x, xs.getD k C8.zero = x := ⟨_, rfl⟩
        rw [hxk] at hpk
        have HX := Lib.hid hxk
        have HK := Lib.hid hpk
        clear hpk hxk
        rcases Bool.eq_false_or_eq_true (okM x 100) with hin | hin
        · go_wp2_with (first
            | ((with_reducible refine wpList_load_pt (op := ⟨some 15, .load 25 (.tmp 14), _, _, _, _⟩) rfl _ _ rfl b (k * 8) _ HK.out _ Try.underlying25 rfl infoC8 ?_ ?_); (focus rfl))
            | (go_at_call 115; refine (polyValid1_any _ _).mono ?_; rintro e w' ⟨rfl, hb⟩; obtain ⟨os, d, rfl⟩ := more_of_below hb; clear hb))
          go_roundw
          case rel => exact ⟨k + 1, by omega, by go_num, fun j hj => by rcases Nat.lt_succ_iff_lt_or_eq.1 hj with h | rfl; exact hall.out j h; rw [HX.out]; exact hin, _, _, rfl⟩
          case measure => simp [intOf]; omega
        · go_wp2_with (first
            | ((with_reducible refine wpList_load_pt (op := ⟨some 15, .load 25 (.tmp 14), _, _, _, _⟩) rfl _ _ rfl b (k * 8) _ HK.out _ Try.underlying25 rfl infoC8 ?_ ?_); (focus rfl))
            | (go_at_call 115; refine (polyValid1_any _ _).mono ?_; rintro e w' ⟨rfl, hb⟩; obtain ⟨os, d, rfl⟩ := more_of_below hb; clear hb))
          go_ret
          exact ⟨⟨k, rfl, by omega, found_some8 (by rw [HN.out]; exact hlt) (by rw [HX.out]; exact hin)⟩, by repeat' (first | (with_reducible exact Below.refl _ _) | (with_reducible assumption) | (with_reducible refine Below.alloc ?_ ?_ _) | (with_reducible refine below_more ?_ ?_ _ _) | (with_reducible refine below_rd ?_ ?_ _ _) | (with_reducible refine Below.drew ?_) | (with_reducible refine Below.setCell ?_ ?_ _) | go_size)⟩
      · obtain rfl : k = n := by omega
        go_wp2
        go_ret
        exact ⟨⟨-1, rfl, by omega, found_none8 fun i hi => hall.out i (by rw [HN.out] at hi; exact hi)⟩, by repeat' (first | (with_reducible exact Below.refl _ _) | (with_reducible assumption) | (with_reducible refine Below.alloc ?_ ?_ _) | (with_reducible refine below_more ?_ ?_ _ _) | (with_reducible refine below_rd ?_ ?_ _ _) | (with_reducible refine Below.drew ?_) | (with_reducible refine Below.setCell ?_ ?_ _) | go_size)⟩
theorem containsFunc8_any (a : Option Addr) (cap : Nat) (xs : List C8) (w : World) (h : HasP w a xs) (hn : xs.length ≤ 1048576) :
    Calls Try.prog 114 #[.slice a xs.length cap, .func (.func 115) #[] #[]] w fun e w' => e = .returned (.bool (!pvA xs)) ∧ Below w.heap.size w w' := by
  rcases Bool.eq_false_or_eq_true (pvA xs) with hv | hv
  all_goals
    rw [hv]
    go_enter Try.func114, Try.ntmps114
    go_wp2_with fail
    refine (indexFunc8_any a cap xs _ h hn).mono ?_
    rintro e w' ⟨⟨r, rfl, hr, hiff⟩, hb⟩
    obtain ⟨os, d, rfl⟩ := more_of_below hb
    rw [hv] at hiff
  · have hr2 : ¬ (0 ≤ r) := fun h0 => by have := hiff.1 h0; cases this
    clear hb hiff
    go_wp2
    go_ret
    exact ⟨by show Ending.returned (.bool (decide (0 ≤ r))) = _; rw [decide_eq_false (show ¬ (0 ≤ r) by omega)]; rfl, by repeat' (first | (with_reducible exact Below.refl _ _) | (with_reducible assumption) | (with_reducible refine Below.alloc ?_ ?_ _) | (with_reducible refine below_more ?_ ?_ _ _) | (with_reducible refine below_rd ?_ ?_ _ _) | (with_reducible refine Below.drew ?_) | (with_reducible refine Below.setCell ?_ ?_ _) | go_size)⟩
  · have hr2 : 0 ≤ r := hiff.2 rfl
    clear hb hiff
    go_wp2
    go_ret
    exact ⟨rfl, by repeat' (first | (with_reducible exact Below.refl _ _) | (with_reducible assumption) | (with_reducible refine Below.alloc ?_ ?_ _) | (with_reducible refine below_more ?_ ?_ _ _) | (with_reducible refine below_rd ?_ ?_ _ _) | (with_reducible refine Below.drew ?_) | (with_reducible refine Below.setCell ?_ ?_ _) | go_size)⟩
theorem polyValid_any (a : Option Addr) (cap : Nat) (xs : List C8) (w : World) (h : HasP w a xs) (hn : xs.length ≤ 1048576) :
    Calls Try.prog 80 #[.slice a xs.length cap] w fun e w' => e = .returned (.bool (plOk xs)) ∧ Below w.heap.size w w' := by
  have HW := Lib.hid h
  rcases Bool.eq_false_or_eq_true (inB xs.length 1 48) with h1 | h1
  · rw [show plOk xs = pvA xs by simp [plOk, h1]]
    go_enter Try.func80, Try.ntmps80
    go_wp2_with (first
      | (go_at_call 110; refine (within_any _ _ _ _).mono ?_; rintro e w' ⟨rfl, rfl⟩)
      | (go_at_call 114; refine (containsFunc8_any _ _ _ _ HW.out hn).mono ?_; rintro e w' ⟨rfl, hb⟩; obtain ⟨os, d, rfl⟩ := more_of_below hb; clear hb))
    go_ret
    exact ⟨by simp, by repeat' (first | (with_reducible exact Below.refl _ _) | (with_reducible assumption) | (with_reducible refine Below.alloc ?_ ?_ _) | (with_reducible refine below_more ?_ ?_ _ _) | (with_reducible refine below_rd ?_ ?_ _ _) | (with_reducible refine Below.drew ?_) | (with_reducible refine Below.setCell ?_ ?_ _) | go_size)⟩
  · rw [show plOk xs = false by simp [plOk, h1]]
    go_enter Try.func80, Try.ntmps80
    go_wp2_with (go_at_call 110; refine (within_any _ _ _ _).mono ?_; rintro e w' ⟨rfl, rfl⟩)
    go_ret
    exact ⟨rfl, by repeat' (first | (with_reducible exact Below.refl _ _) | (with_reducible assumption) | (with_reducible refine Below.alloc ?_ ?_ _) | (with_reducible refine below_more ?_ ?_ _ _) | (with_reducible refine below_rd ?_ ?_ _ _) | (with_reducible refine Below.drew ?_) | (with_reducible refine Below.setCell ?_ ?_ _) | go_size)⟩
set_option maxRecDepth 100000 in
set_option maxHeartbeats 1000000 in
theorem specPolyValid_any (a : Option Addr) (cap : Nat) (xs : List C8) (w : World) (h : HasP w a xs) (hn : xs.length ≤ 1048576) :
    Calls Try.prog 78 #[.slice a xs.length cap] w fun e w' => e = .returned (.bool (plOk xs)) ∧ Below w.heap.size w w' := by
  rcases h with rfl | ⟨b, rfl, hb, hp⟩
  · go_enter Try.func78, Try.ntmps78
    go_wp2_with fail
    go_rounds 1
    all_goals
      go_wp2_with (go_at_call 105; refine (l6In_any _ _ _ _).mono ?_; rintro e w' ⟨rfl, rfl⟩)
      go_ret
      exact ⟨rfl, by repeat' (first | (with_reducible exact Below.refl _ _) | (with_reducible assumption) | (with_reducible refine Below.alloc ?_ ?_ _) | (with_reducible refine below_more ?_ ?_ _ _) | (with_reducible refine below_rd ?_ ?_ _ _) | (with_reducible refine Below.drew ?_) | (with_reducible refine Below.setCell ?_ ?_ _) | go_size)⟩
  · have HP := Lib.hid hp
    clear hp
    obtain ⟨n, hn'⟩ : ∃ n, xs.length = n := ⟨_, rfl⟩
    have hrv : plOk xs = (inB n 1 48 && pvA xs) := by rw [plOk, hn']
    rw [hn'] at hn ⊢
    rw [hrv]
    have HN := Lib.hid hn'
    clear hn' hrv
    go_enter Try.func78, Try.ntmps78
    go_wp2
    go_loopw [3] (fun s wr => ∃ k : Nat, k ≤ n ∧ s = .int .i64 k ∧ Hid (∀ i, i < k → okP (xs.getD i C8.zero) = true) ∧ ∃ os d, wr = more w os d) (fun s _ => n - (intOf s).toNat)
    case atStart => exact ⟨0, by omega, rfl, fun i hi => by omega, _, _, more_self _⟩
    case round =>
      obtain ⟨k, hk, rfl, hall, os, d, rfl⟩ := hrel
      by_cases hlt : k < n
      · have hpk := (HP.out k (by rw [HN.out]; exact hlt)).more hb os d
        obtain ⟨x, hxk⟩ : ∃ x, xs.getD k C8.zero = x := ⟨_, rfl⟩
        rw [hxk] at hpk
        have HX := Lib.hid hxk
        have HK := Lib.hid hpk
        clear hpk hxk
        rcases Bool.eq_false_or_eq_true (okM x 100) with hin | hin
        · go_wp2_with (first
            | ((with_reducible refine wpList_load_pt (op := ⟨some 13, .load 25 (.tmp 12), _, _, _, _⟩) rfl _ _ rfl b (k * 8) _ HK.out _ Try.underlying25 rfl infoC8 ?_ ?_); (focus rfl))
            | (go_at_call 63; refine (l8Small_any _ 100 (by omega) (by omega) _).mono ?_; rintro e w' ⟨rfl, hb⟩; obtain ⟨os, d, rfl⟩ := more_of_below hb; clear hb))
          go_roundw
          case rel => exact ⟨k + 1, by omega, by go_num, fun j hj => by rcases Nat.lt_succ_iff_lt_or_eq.1 hj with h | rfl; exact hall.out j h; rw [HX.out]; exact hin, _, _, rfl⟩
          case measure => simp [intOf]; omega
        · have hno := pvA_no (xs := xs) (i := k) (by rw [HN.out]; exact hlt) (by rw [HX.out]; exact hin)
          have HO := Lib.hid hno
          clear hno
          go_wp2_with (first
            | ((with_reducible refine wpList_load_pt (op := ⟨some 13, .load 25 (.tmp 12), _, _, _, _⟩) rfl _ _ rfl b (k * 8) _ HK.out _ Try.underlying25 rfl infoC8 ?_ ?_); (focus rfl))
            | (go_at_call 63; refine (l8Small_any _ 100 (by omega) (by omega) _).mono ?_; rintro e w' ⟨rfl, hb⟩; obtain ⟨os, d, rfl⟩ := more_of_below hb; clear hb))
          go_ret
          exact ⟨by rw [HO.out, Bool.and_false]; rfl, by repeat' (first | (with_reducible exact Below.refl _ _) | (with_reducible assumption) | (with_reducible refine Below.alloc ?_ ?_ _) | (with_reducible refine below_more ?_ ?_ _ _) | (with_reducible refine below_rd ?_ ?_ _ _) | (with_reducible refine Below.drew ?_) | (with_reducible refine Below.setCell ?_ ?_ _) | go_size)⟩
      · obtain rfl : k = n := by omega
        have hyes := pvA_iff.2 (fun i hi => hall.out i (by rw [HN.out] at hi; exact hi) : ∀ i, i < xs.length → okP (xs.getD i C8.zero) = true)
        have HY := Lib.hid hyes
        clear hyes
        go_wp2_with (go_at_call 105; refine (l6In_any _ _ _ _).mono ?_; rintro e w' ⟨rfl, rfl⟩)
        go_ret
        exact ⟨by rw [HY.out, Bool.and_true]; rfl, by repeat' (first | (with_reducible exact Below.refl _ _) | (with_reducible assumption) | (with_reducible refine Below.alloc ?_ ?_ _) | (with_reducible refine below_more ?_ ?_ _ _) | (with_reducible refine below_rd ?_ ?_ _ _) | (with_reducible refine Below.drew ?_) | (with_reducible refine Below.setCell ?_ ?_ _) | go_size)⟩
end
section
open Go.RowKit Go.Shelf
attribute [local go_sem] Oper.semAt_some

theorem crs_bd {a b : C8} (ha : C8.lim 1000 a) (hb : C8.lim 1000 b) : S4.lim 200000000 (crs a b) := by
  have h := lim_mul (by omega) (by omega) (lim_mir ha) hb
  obtain ⟨a0, a1, a2, a3, a4, a5, a6, a7⟩ := h
  simp only [S4.lim, crs, C8.im]
  omega
/-- A surd in a block of its own. -/
def SumAt (W : World) (B : Nat) (s : S4) : Prop :=
  (W.cell? ⟨B, 0, none⟩ = some (.int .i64 s.a) ∧ W.cell? ⟨B, 1, none⟩ = some (.int .i64 s.b) ∧ W.cell? ⟨B, 2, none⟩ = some (.int .i64 s.c) ∧ W.cell? ⟨B, 3, none⟩ = some (.int .i64 s.d)) ∧
  (W.frozen? ⟨B, 0, none⟩ = false ∧ W.frozen? ⟨B, 1, none⟩ = false ∧ W.frozen? ⟨B, 2, none⟩ = false ∧ W.frozen? ⟨B, 3, none⟩ = false)
theorem SumAt.own (B : Nat) {β : Type} (f : β → S4) : Own (fun s W => SumAt W B (f s)) := fun _ _ _ _ hs hg hr =>
  ⟨⟨cell_kept hs.1.1 hg hr, cell_kept hs.1.2.1 hg hr, cell_kept hs.1.2.2.1 hg hr, cell_kept hs.1.2.2.2 hg hr⟩,
   ⟨(frozen_kept hs.1.1 hg hr).trans hs.2.1, (frozen_kept hs.1.2.1 hg hr).trans hs.2.2.1, (frozen_kept hs.1.2.2.1 hg hr).trans hs.2.2.2.1, (frozen_kept hs.1.2.2.2 hg hr).trans hs.2.2.2.2⟩⟩
theorem SumAt.lt {W : World} {B : Nat} {s : S4} (h : SumAt W B s) : B < W.heap.size := block_lt_of_cell h.1.1
theorem SumAt.below {W W' : World} {B n : Nat} {s : S4} (h : SumAt W B s) (hb : Below n W W') (hB : B < n) : SumAt W' B s := by
  have e : W'.heap[B]? = W.heap[B]? := by obtain ⟨_, _, _, _, h5⟩ := hb; exact h5 B hB
  refine ⟨⟨?_, ?_, ?_, ?_⟩, ?_, ?_, ?_, ?_⟩
  · rw [World.cell?_of_block (w := W) e]; exact h.1.1
  · rw [World.cell?_of_block (w := W) e]; exact h.1.2.1
  · rw [World.cell?_of_block (w := W) e]; exact h.1.2.2.1
  · rw [World.cell?_of_block (w := W) e]; exact h.1.2.2.2
  · rw [World.frozen?_of_block (w := W) e]; exact h.2.1
  · rw [World.frozen?_of_block (w := W) e]; exact h.2.2.1
  · rw [World.frozen?_of_block (w := W) e]; exact h.2.2.2.1
  · rw [World.frozen?_of_block (w := W) e]; exact h.2.2.2.2
theorem SumAt.alloc {W : World} {B : Nat} {s : S4} (h : SumAt W B s) (o : Obj) : SumAt (W.alloc o) B s := h.below ((Below.refl W.heap.size W).alloc (Nat.le_refl _) o) h.lt
theorem SumAt.new (W : World) (s : S4) (T : TypeId) {B : Nat} (hB : B = W.heap.size) : SumAt (W.alloc (.cells #[.int .i64 s.a, .int .i64 s.b, .int .i64 s.c, .int .i64 s.d] T)) B s := by
  subst hB
  refine ⟨⟨?_, ?_, ?_, ?_⟩, ?_, ?_, ?_, ?_⟩ <;> simp [go_sem]
theorem SumAt.store {W : World} {B : Nat} {s : S4} (h : SumAt W B s) (t : S4) : SumAt ((((W.setCell ⟨B, 0, none⟩ (.int .i64 t.a)).setCell ⟨B, 1, none⟩ (.int .i64 t.b)).setCell ⟨B, 2, none⟩ (.int .i64 t.c)).setCell ⟨B, 3, none⟩ (.int .i64 t.d)) B t := by
  obtain ⟨⟨h1, h2, h3, h4⟩, h5, h6, h7, h8⟩ := h
  refine ⟨⟨?_, ?_, ?_, ?_⟩, ?_, ?_, ?_, ?_⟩ <;> simp [go_sem, *]

/-- The sum of the crosses. -/
def arL (l : List (C8 × C8)) : S4 := l.foldl (fun s x => s.add (crs x.1 x.2)) S4.zero
theorem arL_snoc (l : List (C8 × C8)) (x : C8 × C8) : arL (l ++ [x]) = (arL l).add (crs x.1 x.2) := by simp [arL]
def SdOk (x : C8 × C8) : Prop := C8.lim 1000 x.1 ∧ C8.lim 1000 x.2
def arS (l : List (Sd SdOk)) : S4 := arL (l.map (·.1))
theorem arS_snoc (l : List (Sd SdOk)) (x : Sd SdOk) : arS (l ++ [x]) = (arS l).add (crs x.1.1 x.1.2) := by unfold arS; rw [List.map_append]; exact arL_snoc _ _
theorem S4.add_lim {s t : S4} {m n : Int} (hs : S4.lim m s) (ht : S4.lim n t) : S4.lim (m + n) (s.add t) := by
  simp only [S4.lim, S4.add] at *; omega
theorem arS_rev : ∀ (k : Nat) (l : List (Sd SdOk)), l.length = k → S4.lim (200000000 * k) (arS l)
  | 0, l, h => by
    rw [List.length_eq_zero_iff.1 h]; simp [arS, arL, S4.lim, S4.zero]
  | k + 1, l, h => by
    have hne : l ≠ [] := by intro e; rw [e] at h; simp at h
    obtain ⟨p, x, rfl⟩ : ∃ p x, l = p ++ [x] := ⟨l.dropLast, l.getLast hne, (List.dropLast_concat_getLast hne).symm⟩
    rw [arS_snoc]
    have h1 := arS_rev k p (by simpa using h)
    have h2 := crs_bd x.2.1 x.2.2
    have := S4.add_lim h1 h2
    rw [show 200000000 * ((k + 1 : Nat) : Int) = 200000000 * k + 200000000 by omega]
    exact this
theorem arS_lim {l : List (Sd SdOk)} (h : l.length ≤ 48) : S4.lim 10000000000 (arS l) := by
  have := arS_rev l.length l rfl
  simp only [S4.lim] at *; omega

/-- A side in a block of its own. -/
def SideAt (W : World) (B : Nat) (x : C8 × C8) : Prop := W.rangeAt B 0 (row2 x.1 x.2).toList
theorem SideAt.own {B b0 : Nat} {x : C8 × C8} {W W' : World} {row : Option Nat} (h : SideAt W B x) (hg : W.grownBy W' row) (hr : ∀ r, row = some r → b0 ≤ r ∧ ∃ o : Obj, W.heap[r]? = some o ∧ o.isCells = false) : SideAt W' B x :=
  fun j v hv => cell_kept (h j v hv) hg (fun r e => (hr r e).2)
theorem SideAt.new (W : World) (x : C8 × C8) (T : TypeId) : SideAt (W.alloc (.cells (row2 x.1 x.2) T)) W.heap.size x := fun j v hv => by
  rw [cell_of_row _ W.heap.size (0 + j) (row2 x.1 x.2) T (0, 0) (heap_alloc_new W _), Nat.zero_add, ← Array.getElem?_toList]
  exact hv
theorem SideAt.lt {W : World} {B : Nat} {x : C8 × C8} (h : SideAt W B x) : B < W.heap.size := block_lt_of_cell (h 0 _ rfl)
theorem SideAt.fst {W : World} {B : Nat} {x : C8 × C8} (h : SideAt W B x) : PtAt W B 0 x.1 := fun j v hv => by
  have hj : j < 8 := by
    apply Classical.byContradiction; intro hn
    rw [List.getElem?_eq_none (by rw [rowL_len]; omega)] at hv; cases hv
  exact h j v (by rw [← hv]; obtain rfl | rfl | rfl | rfl | rfl | rfl | rfl | rfl : j = 0 ∨ j = 1 ∨ j = 2 ∨ j = 3 ∨ j = 4 ∨ j = 5 ∨ j = 6 ∨ j = 7 := by omega
                  all_goals rfl)
theorem SideAt.snd {W : World} {B : Nat} {x : C8 × C8} (h : SideAt W B x) : PtAt W B 8 x.2 := fun j v hv => by
  have hj : j < 8 := by
    apply Classical.byContradiction; intro hn
    rw [List.getElem?_eq_none (by rw [rowL_len]; omega)] at hv; cases hv
  have e := h (8 + j) v (by rw [← hv]; obtain rfl | rfl | rfl | rfl | rfl | rfl | rfl | rfl : j = 0 ∨ j = 1 ∨ j = 2 ∨ j = 3 ∨ j = 4 ∨ j = 5 ∨ j = 6 ∨ j = 7 := by omega
                            all_goals rfl)
  rw [Nat.zero_add] at e; exact e
theorem ownFrom_KpS {β : Type} {n₀ Bs B : Nat} {W0 : World} (hn : n₀ ≤ B) (hB : Bs < B) (hW : Bs < W0.heap.size) (hnW : n₀ ≤ W0.heap.size) : OwnFrom B (fun (_ : β) W => KpS n₀ Bs W0 W) := fun _ W W' row hs hg hr => by
  refine ⟨?_, ?_⟩
  · exact ownFrom_below (β := Unit) hnW hn () W W' row hs.1 hg hr
  · rw [hg.block Bs (by have := hs.1.size; omega) (fun e => by have := (hr Bs e.symm).1; omega)]
    exact hs.2
theorem KpS.putObj {n₀ Bs l : Nat} (W : World) (o' : Obj) (hn : n₀ ≤ l) (hB : Bs < l) (hl : l < W.heap.size) : KpS n₀ Bs W (W.putObj l o') := by
  refine ⟨?_, World.putObj_heap_other (by omega)⟩
  exact (Below.refl n₀ W).grown (grownBy_putObj' W l o') (by omega) (fun k e => by cases e; exact hn)
theorem keeps_more (W : World) (os : Array Obj) (d : Nat) : KeepsOthers W (more W os d) := ⟨by rw [size_more]; omega, fun k o hk _ => (heap_more k (Array.getElem?_eq_some_iff.1 hk).1).trans hk⟩
theorem KpS.more {n₀ Bs : Nat} {W W' : World} (h : KpS n₀ Bs W W') (hn : n₀ ≤ W'.heap.size) (hB : Bs < W'.heap.size) (os : Array Obj) (d : Nat) : KpS n₀ Bs W (_root_.Go.Proofs.Ytklmlodapinflaa.more W' os d) := ⟨below_more h.1 hn os d, (heap_more Bs hB).trans h.2⟩

/-- PolyArea: whether it is told, and what. -/
def arOk (xs : List C8) : Bool := okT (arL (sidesUpto xs xs.length))
def arR (xs : List C8) : S4 := if arOk xs = true then arL (sidesUpto xs xs.length) else S4.zero
theorem KpS.setCell {n₀ B2 : Nat} {W W' : World} (h : KpS n₀ (B2 + 1) W W') (hn : n₀ ≤ B2) (i : Nat) (v : Value) : KpS n₀ (B2 + 1) W (W'.setCell ⟨B2, i, none⟩ v) := by
  refine ⟨h.1.setCell (p := ⟨B2, i, none⟩) hn v, ?_⟩
  rw [← h.2]
  unfold World.setCell
  simp only [Array.getElem?_modify]
  rw [if_neg (by omega)]
theorem drew_self (w : World) : w.drew = more w #[] (w.drawn + 1) := by cases w; simp [more, World.drew]
theorem s4w {s : S4} {m : Int} (h : S4.lim m s) (hm : m ≤ 1000000000000 := by omega) : (-1000000000000 ≤ s.a ∧ s.a ≤ 1000000000000) ∧ (-1000000000000 ≤ s.b ∧ s.b ≤ 1000000000000) ∧ (-1000000000000 ≤ s.c ∧ s.c ≤ 1000000000000) ∧ (-1000000000000 ≤ s.d ∧ s.d ≤ 1000000000000) := by
  simp only [S4.lim] at h; omega
set_option maxRecDepth 100000 in
set_option maxHeartbeats 4000000 in
theorem polyArea_in (b cap : Nat) (xs : List C8) (hok : plOk xs = true) (hSd : ∀ k, k < xs.length → SdOk (sideOf xs k)) (w : World) (hb : b < w.heap.size) (hc : ∀ i, i < xs.length → PtAt w b (i * 8) (xs.getD i C8.zero)) :
    CallsIn Fence.wide 2 Try.prog 35 #[.slice (some ⟨b, 0, none⟩) xs.length cap] w fun e W' => e = .returned (.tuple #[sS (arR xs), .bool (arOk xs)]) ∧ Below w.heap.size w W' := by
  have hlen : xs.length ≤ 48 := by
    have h := hok; simp only [plOk, Bool.and_eq_true] at h; have := inB_iff.1 h.1; omega
  have HC := Lib.hid hc
  have HP : Hid (HasP w (some ⟨b, 0, none⟩) xs) := Or.inr ⟨b, rfl, hb, hc⟩
  have HS := Lib.hid hSd
  clear hc hSd
  refine callsIn_of_wp_marks Try.func35 rfl trivial ?_ rfl
  simp only [Try.ntmps35, List.size_toArray, List.length_cons, List.length_nil, Nat.reduceAdd, Nat.reduceSub, Array.replicate_succ, Array.replicate_zero, List.push_toArray, List.append_toArray, List.nil_append, List.cons_append]
  gi_wp2_with (first
    | (refine ⟨trivial, ?_⟩; gi_at_call 80; refine (callsIn_wide.2 (polyValid_any _ cap xs _ (HP.out.alloc _) (by omega))).mono ?_; rintro e w' ⟨rfl, hb2⟩; obtain ⟨os, d, rfl⟩ := more_of_below hb2; clear hb2)
    | (refine ⟨trivial, ?_⟩; gi_at_call 81; refine (callsIn_wide.2 (sides_any _ _ _ _)).mono ?_; rintro e w' ⟨rfl, rfl⟩))
  obtain ⟨B2, hB2⟩ : ∃ B2, w.heap.size + 1 + os.size = B2 := ⟨_, rfl⟩
  have sS0 : SumAt (((more (w.alloc (.cells #[.int .i64 0, .int .i64 0, .int .i64 0, .int .i64 0] 28)) os d).alloc (.cells #[.int .i64 0, .int .i64 0, .int .i64 0, .int .i64 0] 28)).alloc (.cells #[.slice (some ⟨b, 0, none⟩) xs.length cap] 49)) B2 (arS []) := (SumAt.new _ S4.zero 28 (by rw [← hB2]; simp)).alloc _
  have hsz : (((more (w.alloc (.cells #[.int .i64 0, .int .i64 0, .int .i64 0, .int .i64 0] 28)) os d).alloc (.cells #[.int .i64 0, .int .i64 0, .int .i64 0, .int .i64 0] 28)).alloc (.cells #[.slice (some ⟨b, 0, none⟩) xs.length cap] 49)).heap.size = B2 + 2 := by rw [← hB2]; simp
  have hcl : (((more (w.alloc (.cells #[.int .i64 0, .int .i64 0, .int .i64 0, .int .i64 0] 28)) os d).alloc (.cells #[.int .i64 0, .int .i64 0, .int .i64 0, .int .i64 0] 28)).alloc (.cells #[.slice (some ⟨b, 0, none⟩) xs.length cap] 49)).cell? ⟨B2 + 1, 0, none⟩ = some (.slice (some ⟨b, 0, none⟩) xs.length cap) := by rw [← hB2]; simp [go_sem]
  have hB0 : Below w.heap.size w (((more (w.alloc (.cells #[.int .i64 0, .int .i64 0, .int .i64 0, .int .i64 0] 28)) os d).alloc (.cells #[.int .i64 0, .int .i64 0, .int .i64 0, .int .i64 0] 28)).alloc (.cells #[.slice (some ⟨b, 0, none⟩) xs.length cap] 49)) := by repeat' (first | (with_reducible exact Below.refl _ _) | (with_reducible assumption) | (with_reducible refine Below.alloc ?_ ?_ _) | (with_reducible refine below_more ?_ ?_ _ _) | (with_reducible refine below_rd ?_ ?_ _ _) | (with_reducible refine Below.drew ?_) | (with_reducible refine Below.setCell ?_ ?_ _) | go_size)
  have hR0 : SumAt (((more (w.alloc (.cells #[.int .i64 0, .int .i64 0, .int .i64 0, .int .i64 0] 28)) os d).alloc (.cells #[.int .i64 0, .int .i64 0, .int .i64 0, .int .i64 0] 28)).alloc (.cells #[.slice (some ⟨b, 0, none⟩) xs.length cap] 49)) w.heap.size S4.zero := ((((SumAt.new w S4.zero 28 rfl).below (below_more (Below.refl (w.heap.size + 1) _) (by simp) os d) (by omega)).alloc _).alloc _)
  rw [hB2]
  obtain ⟨WX, hW0⟩ : ∃ WX, (((more (w.alloc (.cells #[.int .i64 0, .int .i64 0, .int .i64 0, .int .i64 0] 28)) os d).alloc (.cells #[.int .i64 0, .int .i64 0, .int .i64 0, .int .i64 0] 28)).alloc (.cells #[.slice (some ⟨b, 0, none⟩) xs.length cap] 49)) = WX := ⟨_, rfl⟩
  rw [hW0] at sS0 hsz hcl hB0 hR0 ⊢
  clear hW0
  have hb2 : w.heap.size + 1 ≤ B2 := by omega
  refine wpIn_rangeFunc_ownH rfl (by omega) (gf := 116) (lb := #[.pointer (some ⟨B2 + 1, 0, none⟩)]) rfl trivial (enters_of Try.func116 (by kernel_rfl) rfl)
    (sides_stops SdOk (B2 + 1) (w.heap.size + 1) b cap xs (by omega) (by omega) HS.out WX (by omega) (by omega) hcl (fun i hi => ptAt_below (HC.out i hi) hB0 hb))
    (fun h h' => KpS.trans h h') (fun W l o o' hl ho _ _ => KpS.putObj W o' (by omega) (by omega) (Array.getElem?_eq_some_iff.1 ho).1) (Below.refl _ _) (fun _ => rfl)
    (fun pre W => SumAt W B2 (arS pre) ∧ KpS (w.heap.size + 1) (B2 + 1) WX W)
    (fun _ _ _ => False)
    (OwnFrom.and (Own.from (SumAt.own B2 arS) _) (ownFrom_KpS (by omega) (by omega) (by omega) (by omega)))
    (fun _ _ _ _ _ hs _ _ => hs)
    ⟨sS0, KpS.refl _ _ _⟩
    (fun x a' W => ∃ Bx, B2 + 1 < Bx ∧ SideAt W Bx x.1 ∧ a' = { tmps := #[.slice (some ⟨b, 0, none⟩) xs.length cap, undef, .pointer (some ⟨w.heap.size, 0, none⟩), .bool false, .pointer (some ⟨B2, 0, none⟩), .pointer (some ⟨Bx, 0, none⟩), .slice (some ⟨b, 0, none⟩) xs.length cap, .bool true, .bool false, undef, .slice (some ⟨b, 0, none⟩) xs.length cap, .func (.func 116) #[] #[.pointer (some ⟨B2 + 1, 0, none⟩)], .agg (row2 x.1.1 x.1.2), undef, undef, undef, undef, undef, undef, undef, undef, undef, undef, undef], defers := [] })
    (fun x a' _ X Y row hs hg hr => by obtain ⟨Bx, h1, h2, h3⟩ := hs; exact ⟨Bx, h1, h2.own hg hr, h3⟩)
    ?assign ?body ?done ?stop
  case assign =>
    rintro l pre x W K ⟨hS, hK⟩ hKK
    have hsW := hK.1.size
    dsimp only [sideV]
    gi_wp2
    exact hKK _ _ ((KeepsOthers.alloc _ _).from _) ((KpS.refl _ _ W).alloc (by omega) (by omega) _) ⟨hS.alloc _, hK.alloc (by omega) (by omega) _⟩ ⟨W.heap.size, by omega, SideAt.new W x.1 91, rfl⟩
  case body =>
    rintro l pre x a' W hl ⟨r, hr⟩ ⟨hS, hK⟩ ⟨Bx, hBx, hX, rfl⟩ hlt
    have hsW := hK.1.size
    have hB2W : B2 < W.heap.size := by omega
    have hBxW := hX.lt
    obtain ⟨⟨s0, s1, s2, s3⟩, z0, z1, z2, z3⟩ := id hS
    have HF := Lib.hid hX.fst
    have HG := Lib.hid hX.snd
    have B1 := Lib.hid (arS_lim (l := pre) (by omega))
    have B3 := Lib.hid (crs_bd x.2.1 x.2.2)
    have HX := Lib.hid x.2
    gi_wp2
    refine region_fixedIn (lets_round l 0) (fun w' => ∃ os' d', w' = more W os' d') (by kernel_rfl) 7 [sS (arS pre), .pointer (some ⟨Bx, 0, none⟩), cv x.1.1, .pointer (some ⟨Bx, 8, none⟩), cv x.1.2, sS (crs x.1.1 x.1.2), sv ((arS pre).a + (crs x.1.1 x.1.2).a) ((arS pre).b + (crs x.1.1 x.1.2).b) ((arS pre).c + (crs x.1.1 x.1.2).c) ((arS pre).d + (crs x.1.1 x.1.2).d)] (by simp) (by kernel_rfl) (by kernel_rfl) ⟨#[], _, drew_self W⟩ ?_ ?_
    · simp only [List.take_succ_cons, List.take_zero, puts, Act.put, List.setIfInBounds_toArray, List.set_cons_zero, List.set_cons_succ]
      refine ⟨?_, ?_, ?_, ?_, ?_, ?_, ?_, trivial⟩
      all_goals
        refine Or.inl ⟨by kernel_rfl, ?_⟩
        rintro w' ⟨os', d', rfl⟩ K hK
      · go_simp
        with_reducible exact hK.out _ ⟨_, _, rfl⟩
      · go_simp
        with_reducible exact hK.out _ ⟨_, _, rfl⟩
      · refine wp_load_mid 25 (.tmp 14) rfl Bx 0 rfl (row x.1.1).toList _ (HF.out.more hBxW os' d') Try.underlying25 rfl infoC8 ?_
        simp only [Act.put, Array.toArray_toList, List.setIfInBounds_toArray, List.set_cons_zero, List.set_cons_succ]
        with_reducible exact hK.out _ ⟨_, _, rfl⟩
      · go_simp
        with_reducible exact hK.out _ ⟨_, _, rfl⟩
      · refine wp_load_mid 25 (.tmp 16) rfl Bx 8 rfl (row x.1.2).toList _ (HG.out.more hBxW os' d') Try.underlying25 rfl infoC8 ?_
        simp only [Act.put, Array.toArray_toList, List.setIfInBounds_toArray, List.set_cons_zero, List.set_cons_succ]
        with_reducible exact hK.out _ ⟨_, _, rfl⟩
      · go_simp
        (go_at_call 67; refine (cross_any _ _ HX.out.1 HX.out.2 _).mono ?_; rintro e w' ⟨rfl, hb⟩; obtain ⟨os, d, rfl⟩ := more_of_below hb; clear hb)
        go_simp
        with_reducible exact hK.out _ ⟨_, _, rfl⟩
      · go_simp
        (go_at_call 82; refine (splus_any _ _ _ _ _ _ _ _ _ (s4w B1.out) (s4w B3.out)).mono ?_; rintro e w' ⟨rfl, hb⟩; obtain ⟨os, d, rfl⟩ := more_of_below hb; clear hb)
        go_simp
        with_reducible exact hK.out _ ⟨_, _, rfl⟩
    · rintro w' ⟨os', d', rfl⟩
      simp only [List.take_succ_cons, List.take_zero, puts, Act.put, List.setIfInBounds_toArray, List.set_cons_zero, List.set_cons_succ, List.drop_succ_cons, List.drop_zero]
      gi_wp2
      have hKS := (((((KpS.refl (w.heap.size + 1) (B2 + 1) W).setCell hb2 0 (.int .i64 ((arS pre).a + (crs x.1.1 x.1.2).a))).setCell hb2 1 (.int .i64 ((arS pre).b + (crs x.1.1 x.1.2).b))).setCell hb2 2 (.int .i64 ((arS pre).c + (crs x.1.1 x.1.2).c))).setCell hb2 3 (.int .i64 ((arS pre).d + (crs x.1.1 x.1.2).d))).more (by simp; omega) (by simp; omega) os' d'
      refine ⟨(((((KeepsOthers.setCell _ _ _).trans (KeepsOthers.setCell _ _ _)).trans (KeepsOthers.setCell _ _ _)).trans (KeepsOthers.setCell _ _ _)).trans (keeps_more _ _ _)).from _, hKS, ?_, hK.trans hKS⟩
      rw [arS_snoc]
      exact (hS.store ((arS pre).add (crs x.1.1 x.1.2))).below (below_more (Below.refl (B2 + 1) _) (by simp; omega) os' d') (by omega)
  case done =>
    rintro D ys W hD hys ⟨hS, hK⟩ hKd
    have hsW := hK.1.size
    have hlw : w.heap.size < W.heap.size := by omega
    have hR : SumAt W w.heap.size S4.zero := hR0.below hK.1 (by omega)
    obtain ⟨⟨s0, s1, s2, s3⟩, z0, z1, z2, z3⟩ := id hS
    obtain ⟨⟨r0, r1, r2, r3⟩, y0, y1, y2, y3⟩ := id hR
    have HYS := Lib.hid (show arS ys = arL (sidesUpto xs xs.length) by unfold arS; rw [hys])
    clear hys
    rcases Bool.eq_false_or_eq_true (okT (arS ys)) with ho | ho
    · have HO := Lib.hid (show okS (arS ys).a (arS ys).b (arS ys).c (arS ys).d = true from ho)
      gi_wp2_with (refine ⟨trivial, ?_⟩; gi_at_call 56; refine (callsIn_wide.2 (made_yes _ _ _ _ _ HO.out)).mono ?_; rintro e w' ⟨rfl, hb2⟩; obtain ⟨os, d, rfl⟩ := more_of_below hb2; clear hb2)
      have hD1 := (((((KeepsOthers.setCell W ⟨w.heap.size, 0, none⟩ (.int .i64 (arS ys).a)).trans (KeepsOthers.setCell _ ⟨w.heap.size, 1, none⟩ (.int .i64 (arS ys).b))).trans (KeepsOthers.setCell _ ⟨w.heap.size, 2, none⟩ (.int .i64 (arS ys).c))).trans (KeepsOthers.setCell _ ⟨w.heap.size, 3, none⟩ (.int .i64 (arS ys).d))).trans (keeps_more _ os d)).same D _ hKd rfl
      refine ⟨by simp, .inl ⟨_, _, rfl, run_takeDeferred hD1, ?_⟩⟩
      have hRS := (hR.store (arS ys)).below (below_more (Below.refl (w.heap.size + 1) _) (by simp; omega) os d) (by omega)
      obtain ⟨⟨q0, q1, q2, q3⟩, -⟩ := SumAt.own w.heap.size (fun _ : Unit => (arS ys)) () _ _ _ hRS (grownBy_putObj' _ D (.deferred none)) (fun r e => by cases e; exact ⟨_, hD1, rfl⟩)
      have hBW : Below w.heap.size w W := hB0.trans (hK.1.mono (by omega))
      refine ⟨.tuple #[sS (arS ys), .bool true], ?_, ?_, ?_⟩
      · simp [results, Try.f35, go_sem, q0, q1, q2, q3]
      · rw [arR, arOk, ← HYS.out, ho]; rfl
      · exact (below_more (((((hBW.setCell (p := ⟨w.heap.size, 0, none⟩) (Nat.le_refl _) _).setCell (p := ⟨w.heap.size, 1, none⟩) (Nat.le_refl _) _).setCell (p := ⟨w.heap.size, 2, none⟩) (Nat.le_refl _) _).setCell (p := ⟨w.heap.size, 3, none⟩) (Nat.le_refl _) _)) (by simp; omega) os d).trans (belowK_b (w := w) (Nat.le_refl _) _ D _ _ (by omega) hD1 rfl rfl)
    · have HO := Lib.hid (show okS (arS ys).a (arS ys).b (arS ys).c (arS ys).d = false from ho)
      gi_wp2_with (refine ⟨trivial, ?_⟩; gi_at_call 56; refine (callsIn_wide.2 (made_no _ _ _ _ _ HO.out)).mono ?_; rintro e w' ⟨rfl, hb2⟩; obtain ⟨os, d, rfl⟩ := more_of_below hb2; clear hb2)
      have hD1 := (((((KeepsOthers.setCell W ⟨w.heap.size, 0, none⟩ (.int .i64 0)).trans (KeepsOthers.setCell _ ⟨w.heap.size, 1, none⟩ (.int .i64 0))).trans (KeepsOthers.setCell _ ⟨w.heap.size, 2, none⟩ (.int .i64 0))).trans (KeepsOthers.setCell _ ⟨w.heap.size, 3, none⟩ (.int .i64 0))).trans (keeps_more _ os d)).same D _ hKd rfl
      refine ⟨by simp, .inl ⟨_, _, rfl, run_takeDeferred hD1, ?_⟩⟩
      have hRS := (hR.store S4.zero).below (below_more (Below.refl (w.heap.size + 1) _) (by simp; omega) os d) (by omega)
      obtain ⟨⟨q0, q1, q2, q3⟩, -⟩ := SumAt.own w.heap.size (fun _ : Unit => S4.zero) () _ _ _ hRS (grownBy_putObj' _ D (.deferred none)) (fun r e => by cases e; exact ⟨_, hD1, rfl⟩)
      have hBW : Below w.heap.size w W := hB0.trans (hK.1.mono (by omega))
      refine ⟨.tuple #[sS S4.zero, .bool false], ?_, ?_, ?_⟩
      · simp only [S4.zero] at q0 q1 q2 q3
        simp [results, Try.f35, go_sem, q0, q1, q2, q3, S4.zero]
      · rw [arR, arOk, ← HYS.out, ho]; rfl
      · exact (below_more (((((hBW.setCell (p := ⟨w.heap.size, 0, none⟩) (Nat.le_refl _) _).setCell (p := ⟨w.heap.size, 1, none⟩) (Nat.le_refl _) _).setCell (p := ⟨w.heap.size, 2, none⟩) (Nat.le_refl _) _).setCell (p := ⟨w.heap.size, 3, none⟩) (Nat.le_refl _) _)) (by simp; omega) os d).trans (belowK_b (w := w) (Nat.le_refl _) _ D _ _ (by omega) hD1 rfl rfl)
  case stop =>
    rintro D c pre W _ _ h _
    exact h.elim
end
section
open Go.RowKit Go.Shelf

def paOk (xs : List C8) : Bool := plOk xs && arOk xs
def paR (xs : List C8) : S4 := if paOk xs = true then arL (sidesUpto xs xs.length) else S4.zero
theorem plOk_get {xs : List C8} (h : plOk xs = true) : 1 ≤ xs.length ∧ xs.length ≤ 48 ∧ ∀ k, k < xs.length → SdOk (sideOf xs k) := by
  simp only [plOk, Bool.and_eq_true] at h
  have h1 := inB_iff.1 h.1
  have h2 := pvA_iff.1 h.2
  refine ⟨by omega, by omega, fun k hk => ⟨?_, ?_⟩⟩
  · exact C8.lim_mono (okM_lim (h2 k hk)) (by omega)
  · exact C8.lim_mono (okM_lim (h2 _ (Nat.mod_lt _ (by omega)))) (by omega)
theorem polyArea_any (a : Option Addr) (cap : Nat) (xs : List C8) (w : World) (h : HasP w a xs) (hn : xs.length ≤ 1048576) :
    Calls Try.prog 35 #[.slice a xs.length cap] w fun e w' => e = .returned (.tuple #[sS (paR xs), .bool (paOk xs)]) ∧ Below w.heap.size w w' := by
  rcases Bool.eq_false_or_eq_true (plOk xs) with hv | hv
  · obtain ⟨h1, h2, h3⟩ := plOk_get hv
    rcases h with rfl | ⟨b, rfl, hb, hp⟩
    · simp at h1
    · have e1 : paOk xs = arOk xs := by rw [paOk, hv, Bool.true_and]
      have e2 : paR xs = arR xs := by rw [paR, e1, arR]
      rw [e1, e2]
      exact callsIn_wide.1 (polyArea_in b cap xs hv h3 w hb hp)
  · have HW := Lib.hid h
    have HO := Lib.hid (show paOk xs = false ∧ paR xs = S4.zero from by
      have e : paOk xs = false := by rw [paOk, hv, Bool.false_and]
      exact ⟨e, by rw [paR, e]; rfl⟩)
    go_enter Try.func35, Try.ntmps35
    go_wp2_with (go_at_call 80; refine (polyValid_any _ _ _ _ (HW.out.alloc _) hn).mono ?_; rintro e w' ⟨rfl, hb⟩; obtain ⟨os, d, rfl⟩ := more_of_below hb; clear hb)
    go_returns
    exact ⟨by rw [HO.out.1, HO.out.2]; rfl, by repeat' (first | (with_reducible exact Below.refl _ _) | (with_reducible assumption) | (with_reducible refine Below.alloc ?_ ?_ _) | (with_reducible refine below_more ?_ ?_ _ _) | (with_reducible refine below_rd ?_ ?_ _ _) | (with_reducible refine Below.drew ?_) | (with_reducible refine Below.setCell ?_ ?_ _) | go_size)⟩

theorem arU_lim {xs : List C8} {n : Nat} (h : ∀ k, k < n → SdOk (sideOf xs k)) : ∀ k, k ≤ n → S4.lim (200000000 * k) (arL (sidesUpto xs k))
  | 0, _ => by simp [sidesUpto, arL, S4.lim, S4.zero]
  | k + 1, hk => by
    rw [sidesUpto_succ, arL_snoc]
    have h1 := arU_lim h k (by omega)
    have h2 := crs_bd (h k (by omega)).1 (h k (by omega)).2
    have := S4.add_lim h1 h2
    rw [show 200000000 * ((k + 1 : Nat) : Int) = 200000000 * k + 200000000 by omega]
    exact this
theorem arU_lim48 {xs : List C8} {n : Nat} (h : ∀ k, k < n → SdOk (sideOf xs k)) (hn : n ≤ 48) {k : Nat} (hk : k ≤ n) : S4.lim 10000000000 (arL (sidesUpto xs k)) := by
  have := arU_lim h k hk
  simp only [S4.lim] at *; omega
set_option maxRecDepth 100000 in
set_option maxHeartbeats 4000000 in
theorem specPolyArea_yes (b cap n : Nat) (xs : List C8) (hxn : xs.length = n) (hok : plOk xs = true) (w : World) (hb : b < w.heap.size) (hc : ∀ i, i < n → PtAt w b (i * 8) (xs.getD i C8.zero)) (hSd : ∀ k, k < n → SdOk (sideOf xs k)) (hlen : n ≤ 48) :
    Calls Try.prog 33 #[.slice (some ⟨b, 0, none⟩) n cap] w fun e w' => e = .returned (.tuple #[sS (arR xs), .bool (arOk xs)]) ∧ Below w.heap.size w w' := by
  have HC := Lib.hid hc
  have HS := Lib.hid hSd
  have HN := Lib.hid hxn
  have HP : Hid (HasP w (some ⟨b, 0, none⟩) xs) := Or.inr ⟨b, rfl, hb, fun i hi => hc i (by omega)⟩
  have HV : Hid (∀ w', HasP w' (some ⟨b, 0, none⟩) xs → Calls Try.prog 78 #[.slice (some ⟨b, 0, none⟩) n cap] w' fun e w'' => e = .returned (.bool true) ∧ Below w'.heap.size w' w'') := fun w' h' => by
    have := specPolyValid_any (some ⟨b, 0, none⟩) cap xs w' h' (by omega)
    rw [hok, hxn] at this; exact this
  clear hc hSd hxn hok
  go_enter Try.func33, Try.ntmps33
  go_wp2_with (go_at_call 78; refine (HV.out _ ((HP.out.alloc _).alloc _)).mono ?_; rintro e w' ⟨rfl, hb⟩; obtain ⟨os, d, rfl⟩ := more_of_below hb; clear hb)
  go_loopw [5] (fun s wr => ∃ k : Nat, k ≤ n ∧ s = .int .i64 k ∧ ∃ os d, wr = more ((w.alloc (.cells #[.int .i64 0, .int .i64 0, .int .i64 0, .int .i64 0] 28)).alloc (.cells #[.int .i64 (arL (sidesUpto xs k)).a, .int .i64 (arL (sidesUpto xs k)).b, .int .i64 (arL (sidesUpto xs k)).c, .int .i64 (arL (sidesUpto xs k)).d] 28)) os d) (fun s _ => n - (intOf s).toNat)
  case atStart => exact ⟨0, by omega, rfl, _, _, rfl⟩
  case round =>
    obtain ⟨k, hk, rfl, os, d, rfl⟩ := hrel
    by_cases hlt : k < n
    · obtain ⟨m', hm'⟩ : ∃ m', (k + 1) % n = m' := ⟨_, rfl⟩
      have hm : m' < n := by rw [← hm']; exact Nat.mod_lt _ (by omega)
      have hmI : ((k : Int) + 1) % (n : Int) = (m' : Int) := by rw [← hm']; exact_mod_cast rfl
      obtain ⟨x, hx⟩ : ∃ x, xs.getD k C8.zero = x := ⟨_, rfl⟩
      obtain ⟨y, hy⟩ : ∃ y, xs.getD m' C8.zero = y := ⟨_, rfl⟩
      obtain ⟨s, hs⟩ : ∃ s, arL (sidesUpto xs k) = s := ⟨_, rfl⟩
      have hside : sideOf xs k = (x, y) := by rw [sideOf, HN.out, hm', hx, hy]
      have HSK := Lib.hid (HS.out k hlt)
      have HB := Lib.hid (arU_lim48 HS.out hlen hk)
      have HU := Lib.hid (show arL (sidesUpto xs (k + 1)) = s.add (crs x y) by rw [sidesUpto_succ, arL_snoc, hs, hside])
      rw [hside] at HSK
      rw [hs] at HB ⊢
      have HX := Lib.hid (show PtAt ((w.alloc (.cells #[.int .i64 0, .int .i64 0, .int .i64 0, .int .i64 0] 28)).alloc (.cells #[.int .i64 s.a, .int .i64 s.b, .int .i64 s.c, .int .i64 s.d] 28)) b (k * 8) x by rw [← hx]; exact ptAt_alloc (ptAt_alloc (HC.out k hlt) hb _) (by simp; omega) _)
      have HY := Lib.hid (show PtAt ((w.alloc (.cells #[.int .i64 0, .int .i64 0, .int .i64 0, .int .i64 0] 28)).alloc (.cells #[.int .i64 s.a, .int .i64 s.b, .int .i64 s.c, .int .i64 s.d] 28)) b (m' * 8) y by rw [← hy]; exact ptAt_alloc (ptAt_alloc (HC.out m' hm) hb _) (by simp; omega) _)
      have hbW : b < ((w.alloc (.cells #[.int .i64 0, .int .i64 0, .int .i64 0, .int .i64 0] 28)).alloc (.cells #[.int .i64 s.a, .int .i64 s.b, .int .i64 s.c, .int .i64 s.d] 28)).heap.size := by simp; omega
      have ht : ((k : Int) + 1).tmod (n : Int) = (m' : Int) := by
        rw [Int.tmod_eq_emod_of_nonneg (by omega)]; exact hmI
      have hn00 : ¬ (n : Int) = 0 := by omega
      have hwk : IntKind.i64.wrap ((k : Int) + 1) = (k : Int) + 1 := by rw [IntKind.wrap_i64]; omega
      have B3 := Lib.hid (crs_bd HSK.out.1 HSK.out.2)
      clear hm' hx hy hs hside
      go_wp2_with fail
      refine (wpIn_wide (n := 0)).1 ?_
      refine region_fixedIn (lets_wide 0) (fun w' => ∃ os' d', w' = more ((w.alloc (.cells #[.int .i64 0, .int .i64 0, .int .i64 0, .int .i64 0] 28)).alloc (.cells #[.int .i64 s.a, .int .i64 s.b, .int .i64 s.c, .int .i64 s.d] 28)) os' d') (by kernel_rfl) 15 [sS s, .slice (some ⟨b, 0, none⟩) n cap, .int .i64 k, .pointer (some ⟨b, k * 8, none⟩), cv x, .slice (some ⟨b, 0, none⟩) n cap, .int .i64 k, .int .i64 ((k : Int) + 1), .slice (some ⟨b, 0, none⟩) n cap, .int .i64 n, .int .i64 (m' : Int), .pointer (some ⟨b, m' * 8, none⟩), cv y, sS (crs x y), sv (s.a + (crs x y).a) (s.b + (crs x y).b) (s.c + (crs x y).c) (s.d + (crs x y).d)] (by simp) (by kernel_rfl) (by kernel_rfl) ⟨_, _, rfl⟩ ?_ ?_
      · simp only [List.take_succ_cons, List.take_zero, puts, Act.put, List.setIfInBounds_toArray, List.set_cons_zero, List.set_cons_succ]
        refine ⟨?_, ?_, ?_, ?_, ?_, ?_, ?_, ?_, ?_, ?_, ?_, ?_, ?_, ?_, ?_, trivial⟩
        all_goals
          refine Or.inl ⟨by kernel_rfl, ?_⟩
          rintro w' ⟨os', d', rfl⟩ K hK
        iterate 4
          · go_simp
            try go_wp2_with fail
            with_reducible exact hK.out _ ⟨_, _, rfl⟩
        · refine wp_load_mid 25 (.tmp 20) rfl b (k * 8) rfl (row x).toList _ (HX.out.more hbW os' d') Try.underlying25 rfl infoC8 ?_
          simp only [Act.put, Array.toArray_toList, List.setIfInBounds_toArray, List.set_cons_zero, List.set_cons_succ]
          with_reducible exact hK.out _ ⟨_, _, rfl⟩
        iterate 7
          · go_simp
            try go_wp2_with fail
            with_reducible exact hK.out _ ⟨_, _, rfl⟩
        · refine wp_load_mid 25 (.tmp 28) rfl b (m' * 8) rfl (row y).toList _ (HY.out.more hbW os' d') Try.underlying25 rfl infoC8 ?_
          simp only [Act.put, Array.toArray_toList, List.setIfInBounds_toArray, List.set_cons_zero, List.set_cons_succ]
          with_reducible exact hK.out _ ⟨_, _, rfl⟩
        · go_simp
          (go_at_call 64; refine (l8Cross_any _ _ HSK.out.1 HSK.out.2 _).mono ?_; rintro e w' ⟨rfl, hb⟩; obtain ⟨os, d, rfl⟩ := more_of_below hb; clear hb)
          go_simp
          with_reducible exact hK.out _ ⟨_, _, rfl⟩
        · go_simp
          (go_at_call 79; refine (l3Sum_one _ _ _ _ _ _ _ _ _ (s4w HB.out) (s4w B3.out)).mono ?_; rintro e w' ⟨rfl, hb⟩; obtain ⟨os, d, rfl⟩ := more_of_below hb; clear hb)
          go_simp
          with_reducible exact hK.out _ ⟨_, _, rfl⟩
      · rintro w' ⟨os', d', rfl⟩
        simp only [List.take_succ_cons, List.take_zero, puts, Act.put, List.setIfInBounds_toArray, List.set_cons_zero, List.set_cons_succ, List.drop_succ_cons, List.drop_zero]
        gi_wp2
        go_wp2_with fail
        go_roundw
        case rel => exact ⟨k + 1, by omega, by go_num, _, _, by rw [HU.out]; rfl⟩
        case measure => simp [intOf]; omega
    · obtain rfl : k = n := by omega
      have e1 : arL (sidesUpto xs k) = arL (sidesUpto xs xs.length) := by rw [HN.out]
      obtain ⟨s, hs⟩ : ∃ s, arL (sidesUpto xs k) = s := ⟨_, rfl⟩
      have HE := Lib.hid (show arL (sidesUpto xs xs.length) = s by rw [← e1, hs])
      rw [hs]
      clear e1 hs
      rcases Bool.eq_false_or_eq_true (okT s) with ho | ho
      · have HO := Lib.hid (show okS s.a s.b s.c s.d = true from ho)
        go_wp2_with (go_at_call 58; refine (done_yes _ _ _ _ _ HO.out).mono ?_; rintro e w' ⟨rfl, hb⟩; obtain ⟨os, d, rfl⟩ := more_of_below hb; clear hb)
        go_returns
        exact ⟨by rw [arR, arOk, HE.out, ho]; rfl, by repeat' (first | (with_reducible exact Below.refl _ _) | (with_reducible assumption) | (with_reducible refine Below.alloc ?_ ?_ _) | (with_reducible refine below_more ?_ ?_ _ _) | (with_reducible refine below_rd ?_ ?_ _ _) | (with_reducible refine Below.drew ?_) | (with_reducible refine Below.setCell ?_ ?_ _) | go_size)⟩
      · have HO := Lib.hid (show okS s.a s.b s.c s.d = false from ho)
        go_wp2_with (go_at_call 58; refine (done_no _ _ _ _ _ HO.out).mono ?_; rintro e w' ⟨rfl, hb⟩; obtain ⟨os, d, rfl⟩ := more_of_below hb; clear hb)
        go_returns
        exact ⟨by rw [arR, arOk, HE.out, ho]; rfl, by repeat' (first | (with_reducible exact Below.refl _ _) | (with_reducible assumption) | (with_reducible refine Below.alloc ?_ ?_ _) | (with_reducible refine below_more ?_ ?_ _ _) | (with_reducible refine below_rd ?_ ?_ _ _) | (with_reducible refine Below.drew ?_) | (with_reducible refine Below.setCell ?_ ?_ _) | go_size)⟩
theorem specPolyArea_any (a : Option Addr) (cap : Nat) (xs : List C8) (w : World) (h : HasP w a xs) (hn : xs.length ≤ 1048576) :
    Calls Try.prog 33 #[.slice a xs.length cap] w fun e w' => e = .returned (.tuple #[sS (paR xs), .bool (paOk xs)]) ∧ Below w.heap.size w w' := by
  rcases Bool.eq_false_or_eq_true (plOk xs) with hv | hv
  · obtain ⟨h1, h2, h3⟩ := plOk_get hv
    rcases h with rfl | ⟨b, rfl, hb, hp⟩
    · simp at h1
    · have e1 : paOk xs = arOk xs := by rw [paOk, hv, Bool.true_and]
      have e2 : paR xs = arR xs := by rw [paR, e1, arR]
      rw [e1, e2]
      exact specPolyArea_yes b cap xs.length xs rfl hv w hb hp h3 h2
  · have HW := Lib.hid h
    have HO := Lib.hid (show paOk xs = false ∧ paR xs = S4.zero from by
      have e : paOk xs = false := by rw [paOk, hv, Bool.false_and]
      exact ⟨e, by rw [paR, e]; rfl⟩)
    go_enter Try.func33, Try.ntmps33
    go_wp2_with (go_at_call 78; refine (specPolyValid_any _ _ _ _ ((HW.out.alloc _).alloc _) hn).mono ?_; rintro e w' ⟨rfl, hb⟩; obtain ⟨os, d, rfl⟩ := more_of_below hb; clear hb)
    go_returns
    exact ⟨by rw [HO.out.1, HO.out.2]; rfl, by repeat' (first | (with_reducible exact Below.refl _ _) | (with_reducible assumption) | (with_reducible refine Below.alloc ?_ ?_ _) | (with_reducible refine below_more ?_ ?_ _ _) | (with_reducible refine below_rd ?_ ?_ _ _) | (with_reducible refine Below.drew ?_) | (with_reducible refine Below.setCell ?_ ?_ _) | go_size)⟩
end
end Go.Proofs.Ytklmlodapinflaa
