/- DesignAt, of the program and of the reference. -/
import Derived.Test.YtklmlodapinflaaWheelB
import Derived.Test.YtklmlodapinflaaCycE
import Derived.Test.YtklmlodapinflaaCycI
import Derived.Test.YtklmlodapinflaaTransA
namespace Go.Proofs.Ytklmlodapinflaa
open Go.RowKit
attribute [local go_sem ↓] Go.wp_at_zero Go.wp_at_succ

/-- The radii turned, and their sum. -/
def daT (t s : Int) : Nat := ((t * s) % 24).toNat
theorem daT_lt (t s : Int) : daT t s < 24 := by unfold daT; omega
def daF (ds : List W9) (t : Int) (i : Nat) : C8 := (ds.getD i W9.zero).r.turn (daT t (ds.getD i W9.zero).s)
def daP (ds : List W9) (t : Int) : C8 := sumP (daF ds t) ds.length
def daOk (ds : List W9) (t : Int) : Bool := dvOk ds && inB t 0 23 && okC (daP ds t)
def daR (ds : List W9) (t : Int) : C8 := if daOk ds t = true then daP ds t else C8.zero
theorem add_lim {a b : C8} {m n : Int} (ha : C8.lim m a) (hb : C8.lim n b) : C8.lim (m + n) (C8.add a b) := by
  unfold C8.lim at *; simp only [C8.add]; omega
theorem add_wr_lim2 {a b : C8} (ha : C8.lim 1000000000 a) (hb : C8.lim 1000000000 b) : (C8.add a b).wr = C8.add a b := by
  obtain ⟨a0, a1, a2, a3, a4, a5, a6, a7⟩ := ha
  obtain ⟨b0, b1, b2, b3, b4, b5, b6, b7⟩ := hb
  apply C8.ext' <;> simp only [C8.wr, C8.add] <;> exact wrap_in (by omega) (by omega)
theorem dvOk_get {ds : List W9} (h : dvOk ds = true) : ds.length ≤ 12 ∧ ∀ i, i < ds.length → (-1000 ≤ (ds.getD i W9.zero).s ∧ (ds.getD i W9.zero).s ≤ 1000) ∧ okC (ds.getD i W9.zero).r = true := by
  simp only [dvOk, Bool.and_eq_true, decide_eq_true_eq] at h
  refine ⟨h.1, fun i hi => ?_⟩
  have := okAllW_iff.1 h.2 i hi
  simp only [okW, Bool.and_eq_true] at this
  exact ⟨inB_iff.1 this.1, this.2⟩
theorem daF_lim {ds : List W9} (h : ∀ i, i < ds.length → (-1000 ≤ (ds.getD i W9.zero).s ∧ (ds.getD i W9.zero).s ≤ 1000) ∧ okC (ds.getD i W9.zero).r = true) (t : Int) (i : Nat) (hi : i < ds.length) : C8.lim 3000000 (daF ds t i) :=
  C8.turn_bd (h i hi).2 _ (daT_lt _ _)
theorem daS_lim {ds : List W9} (h : ∀ i, i < ds.length → (-1000 ≤ (ds.getD i W9.zero).s ∧ (ds.getD i W9.zero).s ≤ 1000) ∧ okC (ds.getD i W9.zero).r = true) (t : Int) : ∀ k : Nat, k ≤ ds.length → C8.lim (3000000 * k) (sumP (daF ds t) k)
  | 0, _ => by unfold C8.lim; simp [sumP, C8.zero]
  | k + 1, hk => by
    have := add_lim (daS_lim h t k (by omega)) (daF_lim h t k (by omega))
    exact C8.lim_mono this (by omega)
theorem daS_step {ds : List W9} (h : ds.length ≤ 12 ∧ ∀ i, i < ds.length → (-1000 ≤ (ds.getD i W9.zero).s ∧ (ds.getD i W9.zero).s ≤ 1000) ∧ okC (ds.getD i W9.zero).r = true) (t : Int) (k : Nat) (hk : k < ds.length) : (C8.add (sumP (daF ds t) k) (daF ds t k)).wr = sumP (daF ds t) (k + 1) :=
  add_wr_lim2 (C8.lim_mono (daS_lim h.2 t k (by omega)) (by omega)) (C8.lim_mono (daF_lim h.2 t k hk) (by omega))
theorem da_mul {t s : Int} (ht : 0 ≤ t ∧ t ≤ 23) (hs : -1000 ≤ s ∧ s ≤ 1000) : -23000 ≤ t * s ∧ t * s ≤ 23000 := mul_bd2 (A := 23) (B := 1000) (by omega) hs

set_option maxRecDepth 100000 in
set_option maxHeartbeats 4000000 in
theorem at_some (b cap : Nat) (ds : List W9) (t : Int) (ht : 0 ≤ t ∧ t ≤ 23) (w : World) (hb : b < w.heap.size) (hp : ∀ i, i < ds.length → WhAt w b (i * 9) (ds.getD i W9.zero)) (hv : dvOk ds = true) :
    Calls Try.prog 94 #[.slice (some ⟨b, 0, none⟩) ds.length cap, .int .i64 t] w fun e w' => e = .returned (cv (daP ds t)) ∧ Below w.heap.size w w' := by
  have HP := Lib.hid hp
  have HV := Lib.hid (dvOk_get hv)
  have hl := (dvOk_get hv).1
  clear hp hv
  go_enter Try.func94, Try.ntmps94
  go_wp2
  go_loopw [10] (fun s wr => ∃ k : Nat, k ≤ ds.length ∧ s = .int .i64 k ∧ ∃ os d, wr = more ((w.alloc (.cells (row C8.zero) 25)).alloc (.cells (row (sumP (daF ds t) k)) 25)) os d) (fun s _ => ds.length - (intOf s).toNat)
  case atStart => exact ⟨0, by omega, rfl, _, _, more_self _⟩
  case round =>
    obtain ⟨k, hk, rfl, os, d, rfl⟩ := hrel
    by_cases hlt : k < ds.length
    · have hpk := (HP.out k hlt).more hb
      have hs := (HV.out.2 k hlt).1
      have HS := Lib.hid (daS_step HV.out t k hlt)
      have HT := Lib.hid (show ∀ x : W9, ds.getD k W9.zero = x → (C8.mul x.r (C8.rt ((t * x.s) % 24).toNat)).wr = daF ds t k from fun x hx => by
        subst hx
        show _ = (ds.getD k W9.zero).r.turn (daT t (ds.getD k W9.zero).s)
        rw [C8.mul_rt]
        exact C8.turn_wr (HV.out.2 k hlt).2 _ (daT_lt _ _))
      obtain ⟨x, hxk⟩ : ∃ x, ds.getD k W9.zero = x := ⟨_, rfl⟩
      rw [hxk] at hs
      have HT2 := Lib.hid (HT.out x hxk)
      have hw : WhAt (more ((w.alloc (.cells (row C8.zero) 25)).alloc (.cells (row (sumP (daF ds t) k)) 25)) os d) b (k * 9) x := by
        rw [← hxk]; exact ((HP.out k hlt).below ((((Below.refl w.heap.size w).alloc (Nat.le_refl _) _).alloc (by simp) _)) hb).more (by simp; omega) os d
      have HK := Lib.hid hw
      have hm := da_mul ht hs
      have f1 : IntKind.i64.wrap (t * x.s) = t * x.s := IntWalk.i64_in _ (by omega)
      have i0 : (0 : Int) ≤ (k : Int) := by omega
      have i1 : (k : Int) < (ds.length : Int) := by omega
      clear hpk hxk hw HT
      go_wp2_with (first
        | ((with_reducible refine wpList_load_wh (op := ⟨some 13, .load 100 (.tmp 12), _, _, _, _⟩) rfl _ _ rfl b (k * 9) _ HK.out _ Try.underlying100 rfl infoW9 ?_ ?_); (focus rfl)))
      go_region_with (first
        | (go_at_call 72; refine (cturned_any _ _ (by omega) (by omega) _).mono ?_; rw [HT2.out]; rintro e w' ⟨rfl, hb⟩; obtain ⟨os, d, rfl⟩ := more_of_below hb; clear hb)
        | (go_at_call 119; refine (cplus_any _ _ _).mono ?_; rw [HS.out]; rintro e w' ⟨rfl, hb⟩; obtain ⟨os, d, rfl⟩ := more_of_below hb; clear hb))
      all_goals
        go_wp2
        go_roundw
        case rel => exact ⟨k + 1, by omega, by go_num, (by repeat' (first | (with_reducible exact IsMore.refl _) | (with_reducible refine IsMore.alloc ?_ _) | (with_reducible refine IsMore.more ?_ _ _) | (with_reducible refine IsMore.drew ?_)) : IsMore _ _)⟩
        case measure => simp [intOf]; omega
    · obtain rfl : k = ds.length := by omega
      go_wp2
      go_returns
      exact ⟨rfl, by repeat' (first | (with_reducible exact Below.refl _ _) | (with_reducible assumption) | (with_reducible refine Below.alloc ?_ ?_ _) | (with_reducible refine below_more ?_ ?_ _ _) | (with_reducible refine below_rd ?_ ?_ _ _) | (with_reducible refine Below.drew ?_) | (with_reducible refine Below.setCell ?_ ?_ _) | go_size)⟩
theorem at_any (a : Option Addr) (cap : Nat) (ds : List W9) (t : Int) (ht : 0 ≤ t ∧ t ≤ 23) (w : World) (h : HasW w a ds) (hv : dvOk ds = true) :
    Calls Try.prog 94 #[.slice a ds.length cap, .int .i64 t] w fun e w' => e = .returned (cv (daP ds t)) ∧ Below w.heap.size w w' := by
  rcases h with rfl | ⟨b, rfl, hb, hp⟩
  · go_enter Try.func94, Try.ntmps94
    go_wp2
    go_rounds 1
    all_goals
      go_returns
      exact ⟨rfl, by repeat' (first | (with_reducible exact Below.refl _ _) | (with_reducible assumption) | (with_reducible refine Below.alloc ?_ ?_ _) | (with_reducible refine below_more ?_ ?_ _ _) | (with_reducible refine below_rd ?_ ?_ _ _) | (with_reducible refine Below.drew ?_) | (with_reducible refine Below.setCell ?_ ?_ _) | go_size)⟩
  · exact at_some b cap ds t ht w hb hp hv
set_option maxRecDepth 100000 in
set_option maxHeartbeats 4000000 in
theorem l5At_some (b cap : Nat) (ds : List W9) (t : Int) (ht : 0 ≤ t ∧ t ≤ 23) (w : World) (hb : b < w.heap.size) (hp : ∀ i, i < ds.length → WhAt w b (i * 9) (ds.getD i W9.zero)) (hv : dvOk ds = true) :
    Calls Try.prog 91 #[.slice (some ⟨b, 0, none⟩) ds.length cap, .int .i64 t] w fun e w' => e = .returned (cv (daP ds t)) ∧ Below w.heap.size w w' := by
  have HP := Lib.hid hp
  have HV := Lib.hid (dvOk_get hv)
  have hl := (dvOk_get hv).1
  clear hp hv
  go_enter Try.func91, Try.ntmps91
  go_wp2
  go_loopw [6] (fun s wr => ∃ k : Nat, k ≤ ds.length ∧ s = .int .i64 k ∧ ∃ os d, wr = more ((w.alloc (.cells (row C8.zero) 25)).alloc (.cells (row (sumP (daF ds t) k)) 25)) os d) (fun s _ => ds.length - (intOf s).toNat)
  case atStart => exact ⟨0, by omega, rfl, _, _, more_self _⟩
  case round =>
    obtain ⟨k, hk, rfl, os, d, rfl⟩ := hrel
    by_cases hlt : k < ds.length
    · have hs := (HV.out.2 k hlt).1
      have HS := Lib.hid (show (sumP (daF ds t) k).sumW 1 (daF ds t k) = sumP (daF ds t) (k + 1) by rw [C8.sumW_eq, C8.sum_one]; exact daS_step HV.out t k hlt)
      have HT := Lib.hid (show ∀ x : W9, ds.getD k W9.zero = x → x.r.turnW (daT t x.s) = daF ds t k from fun x hx => by
        subst hx
        exact C8.turnW_lim (C8.lim_ok (HV.out.2 k hlt).2) _ (Nat.le_of_lt (daT_lt _ _)))
      obtain ⟨x, hxk⟩ : ∃ x, ds.getD k W9.zero = x := ⟨_, rfl⟩
      rw [hxk] at hs
      have HT2 := Lib.hid (HT.out x hxk)
      have hw : WhAt w b (k * 9) x := by rw [← hxk]; exact HP.out k hlt
      obtain ⟨x0, x1, x2, x3, x4, x5, x6, x7, x8⟩ := hw.cells
      have hm := da_mul ht hs
      have f1 : IntKind.i64.wrap (t * x.s) = t * x.s := IntWalk.i64_in _ (by omega)
      have HM := Lib.hid (show t * x.s % 24 = (daT t x.s : Int) by unfold daT; omega)
      have i0 : (0 : Int) ≤ (k : Int) := by omega
      have i1 : (k : Int) < (ds.length : Int) := by omega
      clear hxk hw HT
      go_wp2_with fail
      go_region_with (first
        | (go_at_call 122; refine (l1Mod_any _ (by omega) (by omega) _).mono ?_; rw [HM.out]; rintro e w' ⟨rfl, rfl⟩)
        | (go_at_call 121; refine (l2Turned_any _ _ (daT_lt _ _) _).mono ?_; rw [HT2.out]; rintro e w' ⟨rfl, hb⟩; obtain ⟨os, d, rfl⟩ := more_of_below hb; clear hb)
        | (go_at_call 85; refine (l2Sum_any _ _ _ _).mono ?_; rw [HS.out]; rintro e w' ⟨rfl, hb⟩; obtain ⟨os, d, rfl⟩ := more_of_below hb; clear hb))
      all_goals
        go_wp2
        go_roundw
        case rel => exact ⟨k + 1, by omega, by go_num, (by repeat' (first | (with_reducible exact IsMore.refl _) | (with_reducible refine IsMore.alloc ?_ _) | (with_reducible refine IsMore.more ?_ _ _) | (with_reducible refine IsMore.drew ?_)) : IsMore _ _)⟩
        case measure => simp [intOf]; omega
    · obtain rfl : k = ds.length := by omega
      go_wp2
      go_returns
      exact ⟨rfl, by repeat' (first | (with_reducible exact Below.refl _ _) | (with_reducible assumption) | (with_reducible refine Below.alloc ?_ ?_ _) | (with_reducible refine below_more ?_ ?_ _ _) | (with_reducible refine below_rd ?_ ?_ _ _) | (with_reducible refine Below.drew ?_) | (with_reducible refine Below.setCell ?_ ?_ _) | go_size)⟩
theorem l5At_any (a : Option Addr) (cap : Nat) (ds : List W9) (t : Int) (ht : 0 ≤ t ∧ t ≤ 23) (w : World) (h : HasW w a ds) (hv : dvOk ds = true) :
    Calls Try.prog 91 #[.slice a ds.length cap, .int .i64 t] w fun e w' => e = .returned (cv (daP ds t)) ∧ Below w.heap.size w w' := by
  rcases h with rfl | ⟨b, rfl, hb, hp⟩
  · go_enter Try.func91, Try.ntmps91
    go_wp2
    go_rounds 1
    all_goals
      go_returns
      exact ⟨rfl, by repeat' (first | (with_reducible exact Below.refl _ _) | (with_reducible assumption) | (with_reducible refine Below.alloc ?_ ?_ _) | (with_reducible refine below_more ?_ ?_ _ _) | (with_reducible refine below_rd ?_ ?_ _ _) | (with_reducible refine Below.drew ?_) | (with_reducible refine Below.setCell ?_ ?_ _) | go_size)⟩
  · exact l5At_some b cap ds t ht w hb hp hv
set_option maxRecDepth 100000 in
set_option maxHeartbeats 1000000 in
theorem designAt_any (a : Option Addr) (cap : Nat) (ds : List W9) (t : Int) (w : World) (h : HasW w a ds) (hn : ds.length ≤ 1048576) :
    Calls Try.prog 44 #[.slice a ds.length cap, .int .i64 t] w fun e w' => e = .returned (.tuple #[cv (daR ds t), .bool (daOk ds t)]) ∧ Below w.heap.size w w' := by
  have H1 := Lib.hid h
  clear h
  rcases Bool.eq_false_or_eq_true (dvOk ds) with hv | hv
  · rcases Bool.eq_false_or_eq_true (inB t 0 23) with h2 | h2
    · have ht := inB_iff.1 h2
      rcases Bool.eq_false_or_eq_true (okC (daP ds t)) with h3 | h3
      · have HO := Lib.hid (show daOk ds t = true ∧ daR ds t = daP ds t from by
          have e : daOk ds t = true := by rw [daOk, hv, h2, h3]; rfl
          exact ⟨e, by rw [daR, if_pos e]⟩)
        have HV := Lib.hid hv
        go_enter Try.func44, Try.ntmps44
        go_wp2_with (first
          | (go_at_call 93; refine (designValid_any _ _ ds _ (H1.out.alloc _) hn).mono ?_; rintro e w' ⟨rfl, hb⟩; obtain ⟨os, d, rfl⟩ := more_of_below hb; clear hb)
          | (go_at_call 71; refine (turnValid_any _ _).mono ?_; rintro e w' ⟨rfl, rfl⟩)
          | (go_at_call 94; refine (at_any _ _ ds _ ht _ ((H1.out.alloc _).more _ _) HV.out).mono ?_; rintro e w' ⟨rfl, hb⟩; obtain ⟨os, d, rfl⟩ := more_of_below hb; clear hb)
          | (go_at_call 61; refine (cmade_yes _ _ h3).mono ?_; rintro e w' ⟨rfl, hb⟩; obtain ⟨os, d, rfl⟩ := more_of_below hb; clear hb))
        go_returns
        exact ⟨by rw [HO.out.1, HO.out.2], by repeat' (first | (with_reducible exact Below.refl _ _) | (with_reducible assumption) | (with_reducible refine Below.alloc ?_ ?_ _) | (with_reducible refine below_more ?_ ?_ _ _) | (with_reducible refine below_rd ?_ ?_ _ _) | (with_reducible refine Below.drew ?_) | (with_reducible refine Below.setCell ?_ ?_ _) | go_size)⟩
      · have HO := Lib.hid (show daOk ds t = false ∧ daR ds t = C8.zero from by
          have e : daOk ds t = false := by rw [daOk, h3, Bool.and_false]
          exact ⟨e, by rw [daR, e]; rfl⟩)
        have HV := Lib.hid hv
        go_enter Try.func44, Try.ntmps44
        go_wp2_with (first
          | (go_at_call 93; refine (designValid_any _ _ ds _ (H1.out.alloc _) hn).mono ?_; rintro e w' ⟨rfl, hb⟩; obtain ⟨os, d, rfl⟩ := more_of_below hb; clear hb)
          | (go_at_call 71; refine (turnValid_any _ _).mono ?_; rintro e w' ⟨rfl, rfl⟩)
          | (go_at_call 94; refine (at_any _ _ ds _ ht _ ((H1.out.alloc _).more _ _) HV.out).mono ?_; rintro e w' ⟨rfl, hb⟩; obtain ⟨os, d, rfl⟩ := more_of_below hb; clear hb)
          | (go_at_call 61; refine (cmade_no _ _ h3).mono ?_; rintro e w' ⟨rfl, hb⟩; obtain ⟨os, d, rfl⟩ := more_of_below hb; clear hb))
        go_returns
        exact ⟨by rw [HO.out.1, HO.out.2], by repeat' (first | (with_reducible exact Below.refl _ _) | (with_reducible assumption) | (with_reducible refine Below.alloc ?_ ?_ _) | (with_reducible refine below_more ?_ ?_ _ _) | (with_reducible refine below_rd ?_ ?_ _ _) | (with_reducible refine Below.drew ?_) | (with_reducible refine Below.setCell ?_ ?_ _) | go_size)⟩
    · have HO := Lib.hid (show daOk ds t = false ∧ daR ds t = C8.zero from by
        have e : daOk ds t = false := by rw [daOk, h2, Bool.and_false]; rfl
        exact ⟨e, by rw [daR, e]; rfl⟩)
      go_enter Try.func44, Try.ntmps44
      go_wp2_with (first
        | (go_at_call 93; refine (designValid_any _ _ ds _ (H1.out.alloc _) hn).mono ?_; rintro e w' ⟨rfl, hb⟩; obtain ⟨os, d, rfl⟩ := more_of_below hb; clear hb)
        | (go_at_call 71; refine (turnValid_any _ _).mono ?_; rintro e w' ⟨rfl, rfl⟩))
      go_returns
      exact ⟨by rw [HO.out.1, HO.out.2], by repeat' (first | (with_reducible exact Below.refl _ _) | (with_reducible assumption) | (with_reducible refine Below.alloc ?_ ?_ _) | (with_reducible refine below_more ?_ ?_ _ _) | (with_reducible refine below_rd ?_ ?_ _ _) | (with_reducible refine Below.drew ?_) | (with_reducible refine Below.setCell ?_ ?_ _) | go_size)⟩
  · have HO := Lib.hid (show daOk ds t = false ∧ daR ds t = C8.zero from by
      have e : daOk ds t = false := by rw [daOk, hv]; rfl
      exact ⟨e, by rw [daR, e]; rfl⟩)
    go_enter Try.func44, Try.ntmps44
    go_wp2_with (first
      | (go_at_call 93; refine (designValid_any _ _ ds _ (H1.out.alloc _) hn).mono ?_; rintro e w' ⟨rfl, hb⟩; obtain ⟨os, d, rfl⟩ := more_of_below hb; clear hb)
      | (go_at_call 71; refine (turnValid_any _ _).mono ?_; rintro e w' ⟨rfl, rfl⟩))
    go_returns
    exact ⟨by rw [HO.out.1, HO.out.2], by repeat' (first | (with_reducible exact Below.refl _ _) | (with_reducible assumption) | (with_reducible refine Below.alloc ?_ ?_ _) | (with_reducible refine below_more ?_ ?_ _ _) | (with_reducible refine below_rd ?_ ?_ _ _) | (with_reducible refine Below.drew ?_) | (with_reducible refine Below.setCell ?_ ?_ _) | go_size)⟩
set_option maxRecDepth 100000 in
set_option maxHeartbeats 1000000 in
theorem specDesignAt_any (a : Option Addr) (cap : Nat) (ds : List W9) (t : Int) (w : World) (h : HasW w a ds) (hn : ds.length ≤ 1048576) :
    Calls Try.prog 42 #[.slice a ds.length cap, .int .i64 t] w fun e w' => e = .returned (.tuple #[cv (daR ds t), .bool (daOk ds t)]) ∧ Below w.heap.size w w' := by
  have H1 := Lib.hid h
  clear h
  rcases Bool.eq_false_or_eq_true (dvOk ds) with hv | hv
  · rcases Bool.eq_false_or_eq_true (inB t 0 23) with h2 | h2
    · have ht := inB_iff.1 h2
      rcases Bool.eq_false_or_eq_true (okC (daP ds t)) with h3 | h3
      · have HO := Lib.hid (show daOk ds t = true ∧ daR ds t = daP ds t from by
          have e : daOk ds t = true := by rw [daOk, hv, h2, h3]; rfl
          exact ⟨e, by rw [daR, if_pos e]⟩)
        have HV := Lib.hid hv
        go_enter Try.func42, Try.ntmps42
        go_wp2_with (first
          | (go_at_call 88; refine (specDesignValid_any _ _ ds _ (H1.out.alloc _) hn).mono ?_; rintro e w' ⟨rfl, hb⟩; obtain ⟨os, d, rfl⟩ := more_of_below hb; clear hb)
          | (go_at_call 89; refine (l1Is_any _ _).mono ?_; rintro e w' ⟨rfl, rfl⟩)
          | (go_at_call 91; refine (l5At_any _ _ ds _ ht _ ((H1.out.alloc _).more _ _) HV.out).mono ?_; rintro e w' ⟨rfl, hb⟩; obtain ⟨os, d, rfl⟩ := more_of_below hb; clear hb)
          | (go_at_call 90; refine (cdone_yes _ _ h3).mono ?_; rintro e w' ⟨rfl, hb⟩; obtain ⟨os, d, rfl⟩ := more_of_below hb; clear hb))
        go_returns
        exact ⟨by rw [HO.out.1, HO.out.2], by repeat' (first | (with_reducible exact Below.refl _ _) | (with_reducible assumption) | (with_reducible refine Below.alloc ?_ ?_ _) | (with_reducible refine below_more ?_ ?_ _ _) | (with_reducible refine below_rd ?_ ?_ _ _) | (with_reducible refine Below.drew ?_) | (with_reducible refine Below.setCell ?_ ?_ _) | go_size)⟩
      · have HO := Lib.hid (show daOk ds t = false ∧ daR ds t = C8.zero from by
          have e : daOk ds t = false := by rw [daOk, h3, Bool.and_false]
          exact ⟨e, by rw [daR, e]; rfl⟩)
        have HV := Lib.hid hv
        go_enter Try.func42, Try.ntmps42
        go_wp2_with (first
          | (go_at_call 88; refine (specDesignValid_any _ _ ds _ (H1.out.alloc _) hn).mono ?_; rintro e w' ⟨rfl, hb⟩; obtain ⟨os, d, rfl⟩ := more_of_below hb; clear hb)
          | (go_at_call 89; refine (l1Is_any _ _).mono ?_; rintro e w' ⟨rfl, rfl⟩)
          | (go_at_call 91; refine (l5At_any _ _ ds _ ht _ ((H1.out.alloc _).more _ _) HV.out).mono ?_; rintro e w' ⟨rfl, hb⟩; obtain ⟨os, d, rfl⟩ := more_of_below hb; clear hb)
          | (go_at_call 90; refine (cdone_no _ _ h3).mono ?_; rintro e w' ⟨rfl, hb⟩; obtain ⟨os, d, rfl⟩ := more_of_below hb; clear hb))
        go_returns
        exact ⟨by rw [HO.out.1, HO.out.2], by repeat' (first | (with_reducible exact Below.refl _ _) | (with_reducible assumption) | (with_reducible refine Below.alloc ?_ ?_ _) | (with_reducible refine below_more ?_ ?_ _ _) | (with_reducible refine below_rd ?_ ?_ _ _) | (with_reducible refine Below.drew ?_) | (with_reducible refine Below.setCell ?_ ?_ _) | go_size)⟩
    · have HO := Lib.hid (show daOk ds t = false ∧ daR ds t = C8.zero from by
        have e : daOk ds t = false := by rw [daOk, h2, Bool.and_false]; rfl
        exact ⟨e, by rw [daR, e]; rfl⟩)
      go_enter Try.func42, Try.ntmps42
      go_wp2_with (first
        | (go_at_call 88; refine (specDesignValid_any _ _ ds _ (H1.out.alloc _) hn).mono ?_; rintro e w' ⟨rfl, hb⟩; obtain ⟨os, d, rfl⟩ := more_of_below hb; clear hb)
        | (go_at_call 89; refine (l1Is_any _ _).mono ?_; rintro e w' ⟨rfl, rfl⟩))
      go_returns
      exact ⟨by rw [HO.out.1, HO.out.2], by repeat' (first | (with_reducible exact Below.refl _ _) | (with_reducible assumption) | (with_reducible refine Below.alloc ?_ ?_ _) | (with_reducible refine below_more ?_ ?_ _ _) | (with_reducible refine below_rd ?_ ?_ _ _) | (with_reducible refine Below.drew ?_) | (with_reducible refine Below.setCell ?_ ?_ _) | go_size)⟩
  · have HO := Lib.hid (show daOk ds t = false ∧ daR ds t = C8.zero from by
      have e : daOk ds t = false := by rw [daOk, hv]; rfl
      exact ⟨e, by rw [daR, e]; rfl⟩)
    go_enter Try.func42, Try.ntmps42
    go_wp2_with (first
      | (go_at_call 88; refine (specDesignValid_any _ _ ds _ (H1.out.alloc _) hn).mono ?_; rintro e w' ⟨rfl, hb⟩; obtain ⟨os, d, rfl⟩ := more_of_below hb; clear hb)
      | (go_at_call 89; refine (l1Is_any _ _).mono ?_; rintro e w' ⟨rfl, rfl⟩))
    go_returns
    exact ⟨by rw [HO.out.1, HO.out.2], by repeat' (first | (with_reducible exact Below.refl _ _) | (with_reducible assumption) | (with_reducible refine Below.alloc ?_ ?_ _) | (with_reducible refine below_more ?_ ?_ _ _) | (with_reducible refine below_rd ?_ ?_ _ _) | (with_reducible refine Below.drew ?_) | (with_reducible refine Below.setCell ?_ ?_ _) | go_size)⟩

end Go.Proofs.Ytklmlodapinflaa
