/- The reference's draws of swings: whatever the code, some swing of words comes back, and only the reader's block has turned. -/
import Derived.Test.YtmoajpkgdimdaaaOpen
import Derived.Test.YtmoajpkgdimdaaaSwingB
import Derived.Deep.RegionHeld3
namespace Go.Proofs.Ytmoajpkgdimdaaa
open Go.RowKit

/-- Behind a draw: the reader stands somewhat further on. -/
def DrawPost (w : World) (g : Nat) (v : Value) (p m : Int) (x : Value) (e : Ending) (w' : World) : Prop :=
  ∃ p', p ≤ p' ∧ p' ≤ p + m ∧ e = .returned x ∧ IsMore (rd w g v p') w'
theorem DrawPost.mk {w w' : World} {g : Nat} {v x : Value} {p m p' : Int} (h : IsMore (rd w g v p') w') (h1 : p ≤ p') (h2 : p' ≤ p + m) : DrawPost w g v p m x (.returned x) w' := ⟨p', h1, h2, rfl, h⟩

@[go_sem] theorem run_store_complex {P : Program} (w : World) (a : Addr) (k : FloatKind) (x y : Nat) (m : Mode) : (store a (.complex k x y) m).run P w = stored P w a (.complex k x y) m := run_store P w a _ m rfl
/-! Conversions and quotients that may draw. -/
theorem drew_moreS (w : World) : w.drew = more w #[] (w.drawn + 1) := by cases w; simp [more, World.drew]
theorem run_choose {P : Program} (w : World) (q : Question) (h : q.forced = false) (f : Nat → Value) : (do pure (f (← choose q)) : Sem Value).run P w = .ok (f (q.cut (w.tape w.drawn q))) (more w #[] (w.drawn + 1)) := by
  have e : (do pure (f (← choose q)) : Sem Value).run P w = .ok (f (q.cut (w.tape w.drawn q))) w.drew := by simp [h]
  rw [e, drew_moreS]
theorem nan32_lt (t : Nat) : (t % 2) * 2 ^ 31 + 0x7f800000 + 1 + (t / 2) % (2 ^ 23 - 1) < 4294967296 := by
  have e31 : (2 : Nat) ^ 31 = 2147483648 := by decide +kernel
  rw [e31]
  have h1 : (t / 2) % (2 ^ 23 - 1) < 8388607 := Nat.mod_lt _ (by decide)
  have h2 : t % 2 < 2 := Nat.mod_lt _ (by decide)
  omega
theorem conv_any {P : Program} (w : World) (b : Nat) : ∃ r d, (Conv.floatToFloat .f64 b .f32).run P w = .ok (.float .f32 r) (more w #[] d) ∧ r < 4294967296 := by
  unfold Conv.floatToFloat
  rw [if_neg (by decide)]
  split
  · exact ⟨(Question.nanConv .f32 b).cut (w.tape w.drawn (.nanConv .f32 b)), w.drawn + 1, run_choose w (.nanConv .f32 b) rfl (Value.float .f32), nan32_lt (w.tape w.drawn (.nanConv .f32 b))⟩
  · exact ⟨_, w.drawn, (congrArg (Result.ok _) (more_self w)), Ieee.Format.write_lt Ieee.single _⟩
  · simp only
    split
    · exact ⟨(Question.floatToFloat b).cut (w.tape w.drawn (.floatToFloat b)), w.drawn + 1, run_choose w (.floatToFloat b) rfl (Value.float .f32), Nat.mod_lt _ (by decide +kernel)⟩
    · exact ⟨_, w.drawn, (congrArg (Result.ok _) (more_self w)), Ieee.Format.write_lt Ieee.single _⟩
theorem more_more0 (w : World) (d e : Nat) : more (more w #[] d) #[] e = more w #[] e := by simp [more]
theorem convC_any (w : World) (a b : Nat) : ∃ r s d, (convert 28 23 (.complex .f64 a b)).run Try.prog w = .ok (.complex .f32 r s) (more w #[] d) ∧ r < 4294967296 ∧ s < 4294967296 := by
  obtain ⟨r, d, h1, h2⟩ := conv_any (P := Try.prog) w a
  obtain ⟨s, e, h3, h4⟩ := conv_any (P := Try.prog) (more w #[] d) b
  refine ⟨r, s, e, ?_, h2, h4⟩
  simp [convert, run_underlying Try.underlying28, run_underlying Try.underlying23, Conv.complexToComplex, h1, h3, more_more0]
/-- The conversion as a function of the world. -/
theorem convC_fun (a b : Nat) : ∃ f : World → Nat × Nat × Nat, ∀ w, (convert 28 23 (.complex .f64 a b)).run Try.prog w = .ok (.complex .f32 (f w).1 (f w).2.1) (more w #[] (f w).2.2) ∧ (f w).1 < 4294967296 ∧ (f w).2.1 < 4294967296 := by
  have h : ∀ w, ∃ t : Nat × Nat × Nat, (convert 28 23 (.complex .f64 a b)).run Try.prog w = .ok (.complex .f32 t.1 t.2.1) (more w #[] t.2.2) ∧ t.1 < 4294967296 ∧ t.2.1 < 4294967296 := fun w => by
    obtain ⟨r, s, d, h⟩ := convC_any w a b
    exact ⟨(r, s, d), h⟩
  exact ⟨fun w => (h w).choose, fun w => (h w).choose_spec⟩

/-- Fourths of small whole numbers. -/
def q4 (k : Nat) : Nat := (Ieee.single.div (floatOfInt .f32 ((k : Int) - 16)) 1082130432).getD 0
theorem q4_all : ∀ k : Fin 33, Ieee.single.div (floatOfInt .f32 ((k.1 : Int) - 16)) 1082130432 = some (q4 k.1) ∧ q4 k.1 < 4294967296 := by decide +kernel
theorem run_q4 {P : Program} (w : World) (T : TypeId) {k : Nat} (h : k < 33) : (binOp .quo T (.float .f32 (floatOfInt .f32 ((k : Int) - 16))) (.float .f32 1082130432)).run P w = .ok (.float .f32 (q4 k)) w :=
  run_float_arith w .quo T .f32 _ _ _ (q4_all ⟨k, h⟩).1

def WidePost (w : World) (g : Nat) (v : Value) (p : Int) (e : Ending) (w' : World) : Prop := ∃ a b : Nat, DrawPost w g v p 3 (.complex .f64 a b) e w'
def nan00 (w : World) : Nat := (Question.nanBits .f64 0 0).cut (w.tape w.drawn (.nanBits .f64 0 0))
theorem run_00 {P : Program} (w : World) (t : TypeId) : (binOp .quo t (.float .f64 0) (.float .f64 0)).run P w = .ok (.float .f64 (nan00 w)) w.drew := by
  have h : FloatKind.f64.format.div 0 0 = none := by decide +kernel
  simp [binOp, Op.floatArith, h, Question.forced, nan00]
theorem run_10 {P : Program} (w : World) (t : TypeId) : (binOp .quo t (.float .f64 4607182418800017408) (.float .f64 0)).run P w = .ok (.float .f64 9218868437227405312) w :=
  run_float_arith w .quo t .f64 _ _ _ (by decide +kernel)
theorem run_m01 {P : Program} (w : World) (t : TypeId) : (binOp .mul t (.float .f64 9223372036854775808) (.float .f64 4607182418800017408)).run P w = .ok (.float .f64 9223372036854775808) w :=
  run_float_arith w .mul t .f64 _ _ _ (by decide +kernel)
theorem run_neg00 {P : Program} (w : World) : (Op.unary .neg (.float .f64 0)).run P w = .ok (.float .f64 9223372036854775808) w := by rfl
set_option maxRecDepth 100000 in
set_option maxHeartbeats 4000000 in
theorem l91Wide_rd (w w0 : World) (B g : Nat) (a : Option Addr) (len cap : Nat) (p : Int) (hg : g < w.heap.size) (hv : HasB w0 B a len) (hbel : Below B w0 w) (hB : B ≤ g) (hl : len ≤ 2000) (hp : 0 ≤ p) (hp2 : p ≤ 100000) :
    Calls Try.prog 56 #[.pointer (some ⟨g, 0, none⟩)] (rd w g (.slice a len cap) p) (WidePost w g (.slice a len cap) p) := by
  have r1 := fun w => run_00 (P := Try.prog) w 43
  have r2 := fun w => run_10 (P := Try.prog) w 43
  have r3 := fun w => run_m01 (P := Try.prog) w 43
  have r4 := fun w => run_neg00 (P := Try.prog) w
  go_enter Try.func56, Try.ntmps56
  go_wp2_with fail
  (go_at_call 35; refine (pick_any _ w0 B g a len cap _ _ (by ((repeat (first | (refine (heap_alloc_past _ _ ?_).trans ?_; focus (first | omega | (simp; omega) | (simp; done))) | (refine (heap_more_past _ _ _ ?_).trans ?_; focus (first | omega | (simp; omega) | (simp; done))))); exact heap_rd_same (by (first | omega | (simp; omega) | (simp; done))))) hv (by repeat' (first | (with_reducible assumption) | (with_reducible exact Below.refl _ _) | (with_reducible refine Below.alloc ?_ ?_ _) | (with_reducible refine below_more ?_ ?_ _ _) | (with_reducible refine below_rd ?_ ?_ _ _) | (with_reducible refine Below.drew ?_) | (first | omega | (simp; omega) | (simp; done)))) hB hl (by omega) (by omega) (by omega)).mono ?_; rintro e w' ⟨k, dk, rfl, ⟨hk0, hk1, -⟩, rfl⟩; have hk1 := hk1 (by omega))
  have hks : k = 0 ∨ k = 1 ∨ k = 2 ∨ k = 3 ∨ 4 ≤ k := by omega
  rcases hks with rfl | rfl | rfl | rfl | hk3
  iterate 4
    · clear hk0 hk1
      go_wp2
      go_ret
      exact ⟨_, _, DrawPost.mk (by repeat' (first | (with_reducible exact IsMore.refl _) | (with_reducible refine IsMore.alloc ?_ _) | (with_reducible refine IsMore.more ?_ _ _) | (with_reducible refine IsMore.drew ?_))) (by omega) (by omega)⟩
  · have e0 : (k == 0) = false := by rw [beq_eq_false_iff_ne]; omega
    have e1 : (k == 1) = false := by rw [beq_eq_false_iff_ne]; omega
    have e2 : (k == 2) = false := by rw [beq_eq_false_iff_ne]; omega
    have e3 : (k == 3) = false := by rw [beq_eq_false_iff_ne]; omega
    go_wp2_with fail
    (go_at_call 35; refine (pick_any _ w0 B g a len cap _ _ (by ((repeat (first | (refine (heap_alloc_past _ _ ?_).trans ?_; focus (first | omega | (simp; omega) | (simp; done))) | (refine (heap_more_past _ _ _ ?_).trans ?_; focus (first | omega | (simp; omega) | (simp; done))))); exact heap_rd_same (by (first | omega | (simp; omega) | (simp; done))))) hv (by repeat' (first | (with_reducible assumption) | (with_reducible exact Below.refl _ _) | (with_reducible refine Below.alloc ?_ ?_ _) | (with_reducible refine below_more ?_ ?_ _ _) | (with_reducible refine below_rd ?_ ?_ _ _) | (with_reducible refine Below.drew ?_) | (first | omega | (simp; omega) | (simp; done)))) hB hl (by omega) (by omega) (by omega)).mono ?_; rintro e w' ⟨kx, dx, rfl, ⟨hkx0, hkx1, -⟩, rfl⟩; have hkx1 := hkx1 (by omega))
    go_wp2_with fail
    (go_at_call 35; refine (pick_any _ w0 B g a len cap _ _ (by ((repeat (first | (refine (heap_alloc_past _ _ ?_).trans ?_; focus (first | omega | (simp; omega) | (simp; done))) | (refine (heap_more_past _ _ _ ?_).trans ?_; focus (first | omega | (simp; omega) | (simp; done))))); exact heap_rd_same (by (first | omega | (simp; omega) | (simp; done))))) hv (by repeat' (first | (with_reducible assumption) | (with_reducible exact Below.refl _ _) | (with_reducible refine Below.alloc ?_ ?_ _) | (with_reducible refine below_more ?_ ?_ _ _) | (with_reducible refine below_rd ?_ ?_ _ _) | (with_reducible refine Below.drew ?_) | (first | omega | (simp; omega) | (simp; done)))) hB hl (by omega) (by omega) (by omega)).mono ?_; rintro e w' ⟨ky, dy, rfl, ⟨hky0, hky1, -⟩, rfl⟩; have hky1 := hky1 (by omega))
    go_wp2
    go_ret
    exact ⟨_, _, DrawPost.mk (by repeat' (first | (with_reducible exact IsMore.refl _) | (with_reducible refine IsMore.alloc ?_ _) | (with_reducible refine IsMore.more ?_ _ _) | (with_reducible refine IsMore.drew ?_))) (by omega) (by omega)⟩
def SwingPost (w : World) (g : Nat) (v : Value) (p : Int) (e : Ending) (w' : World) : Prop := ∃ (x y : Nat) (t s : Int), x < 4294967296 ∧ y < 4294967296 ∧ DrawPost w g v p 10 (swv x y t s) e w'
theorem SwingPost.mk {w w' : World} {g : Nat} {v : Value} {p p' : Int} {x y : Nat} {t s : Int} (hx : x < 4294967296) (hy : y < 4294967296) (h : IsMore (rd w g v p') w') (h1 : p ≤ p') (h2 : p' ≤ p + 10) : SwingPost w g v p (.returned (swv x y t s)) w' := ⟨x, y, t, s, hx, hy, DrawPost.mk h h1 h2⟩
theorem lt_rdObjS {w : World} {g : Nat} {o : Obj} (h : w.heap[g]? = some o) : g < w.heap.size := (Array.getElem?_eq_some_iff.1 h).1
theorem l91Wide_any (W w0 : World) (B g : Nat) (a : Option Addr) (len cap : Nat) (p : Int) (hgb : W.heap[g]? = some (rdObj (.slice a len cap) p)) (hv : HasB w0 B a len) (hbel : Below B w0 W) (hB : B ≤ g) (hl : len ≤ 2000) (hp : 0 ≤ p) (hp2 : p ≤ 100000) :
    Calls Try.prog 56 #[.pointer (some ⟨g, 0, none⟩)] W (WidePost W g (.slice a len cap) p) := by
  have e := rd_self hgb
  have h := l91Wide_rd W w0 B g a len cap p (lt_rdObjS hgb) hv hbel hB hl hp hp2
  rw [← e] at h
  exact h

theorem q4_lt {k : Nat} (h : k < 33) : q4 k < 4294967296 := (q4_all ⟨k, h⟩).2
set_option maxRecDepth 100000 in
set_option maxHeartbeats 4000000 in
theorem l92Swing_rd (w w0 : World) (B g : Nat) (a : Option Addr) (len cap : Nat) (p : Int) (hg : g < w.heap.size) (hv : HasB w0 B a len) (hbel : Below B w0 w) (hB : B ≤ g) (hl : len ≤ 2000) (hp : 0 ≤ p) (hp2 : p ≤ 10000) :
    Calls Try.prog 29 #[.pointer (some ⟨g, 0, none⟩)] (rd w g (.slice a len cap) p) (SwingPost w g (.slice a len cap) p) := by
  go_enter Try.func29, Try.ntmps29
  go_wp2_with fail
  (go_at_call 35; refine (pick_any _ w0 B g a len cap _ _ (by ((repeat (first | (refine (heap_alloc_past _ _ ?_).trans ?_; focus (first | omega | (simp; omega) | (simp; done))) | (refine (heap_more_past _ _ _ ?_).trans ?_; focus (first | omega | (simp; omega) | (simp; done))))); exact heap_rd_same (by (first | omega | (simp; omega) | (simp; done))))) hv (by repeat' (first | (with_reducible assumption) | (with_reducible exact Below.refl _ _) | (with_reducible refine Below.alloc ?_ ?_ _) | (with_reducible refine below_more ?_ ?_ _ _) | (with_reducible refine below_rd ?_ ?_ _ _) | (with_reducible refine Below.drew ?_) | (first | omega | (simp; omega) | (simp; done)))) hB hl (by omega) (by omega) (by omega)).mono ?_; rintro e w' ⟨kx, dx, rfl, ⟨hkx0, hkx1, -⟩, rfl⟩; have hkx1 := hkx1 (by omega))
  obtain ⟨i, rfl⟩ := Int.eq_ofNat_of_zero_le hkx0
  have hi33 : i < 33 := by omega
  have r1 := fun w => run_q4 (P := Try.prog) w 65 hi33
  have b1 := q4_lt hi33
  clear hi33
  go_wp2_with fail
  (go_at_call 35; refine (pick_any _ w0 B g a len cap _ _ (by ((repeat (first | (refine (heap_alloc_past _ _ ?_).trans ?_; focus (first | omega | (simp; omega) | (simp; done))) | (refine (heap_more_past _ _ _ ?_).trans ?_; focus (first | omega | (simp; omega) | (simp; done))))); exact heap_rd_same (by (first | omega | (simp; omega) | (simp; done))))) hv (by repeat' (first | (with_reducible assumption) | (with_reducible exact Below.refl _ _) | (with_reducible refine Below.alloc ?_ ?_ _) | (with_reducible refine below_more ?_ ?_ _ _) | (with_reducible refine below_rd ?_ ?_ _ _) | (with_reducible refine Below.drew ?_) | (first | omega | (simp; omega) | (simp; done)))) hB hl (by omega) (by omega) (by omega)).mono ?_; rintro e w' ⟨ky, dy, rfl, ⟨hky0, hky1, -⟩, rfl⟩; have hky1 := hky1 (by omega))
  obtain ⟨j, rfl⟩ := Int.eq_ofNat_of_zero_le hky0
  have hj33 : j < 33 := by omega
  have r2 := fun w => run_q4 (P := Try.prog) w 65 hj33
  have b2 := q4_lt hj33
  clear hj33
  go_wp2_with fail
  (go_at_call 35; refine (pick_any _ w0 B g a len cap _ _ (by ((repeat (first | (refine (heap_alloc_past _ _ ?_).trans ?_; focus (first | omega | (simp; omega) | (simp; done))) | (refine (heap_more_past _ _ _ ?_).trans ?_; focus (first | omega | (simp; omega) | (simp; done))))); exact heap_rd_same (by (first | omega | (simp; omega) | (simp; done))))) hv (by repeat' (first | (with_reducible assumption) | (with_reducible exact Below.refl _ _) | (with_reducible refine Below.alloc ?_ ?_ _) | (with_reducible refine below_more ?_ ?_ _ _) | (with_reducible refine below_rd ?_ ?_ _ _) | (with_reducible refine Below.drew ?_) | (first | omega | (simp; omega) | (simp; done)))) hB hl (by omega) (by omega) (by omega)).mono ?_; rintro e w' ⟨kt, dt, rfl, ⟨hkt0, hkt1, -⟩, rfl⟩; have hkt1 := hkt1 (by omega))
  go_wp2_with fail
  (go_at_call 35; refine (pick_any _ w0 B g a len cap _ _ (by ((repeat (first | (refine (heap_alloc_past _ _ ?_).trans ?_; focus (first | omega | (simp; omega) | (simp; done))) | (refine (heap_more_past _ _ _ ?_).trans ?_; focus (first | omega | (simp; omega) | (simp; done))))); exact heap_rd_same (by (first | omega | (simp; omega) | (simp; done))))) hv (by repeat' (first | (with_reducible assumption) | (with_reducible exact Below.refl _ _) | (with_reducible refine Below.alloc ?_ ?_ _) | (with_reducible refine below_more ?_ ?_ _ _) | (with_reducible refine below_rd ?_ ?_ _ _) | (with_reducible refine Below.drew ?_) | (first | omega | (simp; omega) | (simp; done)))) hB hl (by omega) (by omega) (by omega)).mono ?_; rintro e w' ⟨ks, ds, rfl, ⟨hks0, hks1, -⟩, rfl⟩; have hks1 := hks1 (by omega))
  go_wp2_with fail
  (go_at_call 35; refine (pick_any _ w0 B g a len cap _ _ (by ((repeat (first | (refine (heap_alloc_past _ _ ?_).trans ?_; focus (first | omega | (simp; omega) | (simp; done))) | (refine (heap_more_past _ _ _ ?_).trans ?_; focus (first | omega | (simp; omega) | (simp; done))))); exact heap_rd_same (by (first | omega | (simp; omega) | (simp; done))))) hv (by repeat' (first | (with_reducible assumption) | (with_reducible exact Below.refl _ _) | (with_reducible refine Below.alloc ?_ ?_ _) | (with_reducible refine below_more ?_ ?_ _ _) | (with_reducible refine below_rd ?_ ?_ _ _) | (with_reducible refine Below.drew ?_) | (first | omega | (simp; omega) | (simp; done)))) hB hl (by omega) (by omega) (by omega)).mono ?_; rintro e w' ⟨kc, dc, rfl, ⟨hkc0, hkc1, -⟩, rfl⟩; have hkc1 := hkc1 (by omega))
  have hks : kc = 0 ∨ kc = 1 ∨ kc = 2 ∨ kc = 3 ∨ 4 ≤ kc := by omega
  rcases hks with rfl | rfl | rfl | rfl | hk3
  · clear hkc0 hkc1
    go_wp2_with fail
    (go_at_call 56; refine (l91Wide_any _ w0 B g a len cap _ (by ((repeat (first | (refine (heap_alloc_past _ _ ?_).trans ?_; focus (first | omega | (simp; omega) | (simp; done))) | (refine (heap_more_past _ _ _ ?_).trans ?_; focus (first | omega | (simp; omega) | (simp; done))))); exact heap_rd_same (by (first | omega | (simp; omega) | (simp; done))))) hv (by repeat' (first | (with_reducible assumption) | (with_reducible exact Below.refl _ _) | (with_reducible refine Below.alloc ?_ ?_ _) | (with_reducible refine below_more ?_ ?_ _ _) | (with_reducible refine below_rd ?_ ?_ _ _) | (with_reducible refine Below.drew ?_) | (first | omega | (simp; omega) | (simp; done)))) hB hl (by omega) (by omega)).mono ?_; rintro e w' ⟨c1, c2, p1, hp1, hp2, rfl, os1, d1, rfl⟩)
    obtain ⟨f, hf⟩ := convC_fun c1 c2
    have r3 := fun w => (hf w).1
    have b3 := Lib.hid (fun w => (hf w).2)
    clear hf
    go_wp2
    go_returns
    exact SwingPost.mk (b3.out _).1 (b3.out _).2 (by repeat' (first | (with_reducible exact IsMore.refl _) | (with_reducible refine IsMore.alloc ?_ _) | (with_reducible refine IsMore.more ?_ _ _) | (with_reducible refine IsMore.drew ?_))) (by omega) (by omega)
  iterate 3
    · clear hkc0 hkc1
      go_wp2
      go_returns
      refine SwingPost.mk (by first | (with_reducible assumption) | decide +kernel) (by first | (with_reducible assumption) | decide +kernel) (by repeat' (first | (with_reducible exact IsMore.refl _) | (with_reducible refine IsMore.alloc ?_ _) | (with_reducible refine IsMore.more ?_ _ _) | (with_reducible refine IsMore.drew ?_))) (by omega) (by omega)
  · have e0 : (kc == 0) = false := by rw [beq_eq_false_iff_ne]; omega
    have e1 : (kc == 1) = false := by rw [beq_eq_false_iff_ne]; omega
    have e2 : (kc == 2) = false := by rw [beq_eq_false_iff_ne]; omega
    have e3 : (kc == 3) = false := by rw [beq_eq_false_iff_ne]; omega
    go_wp2
    go_returns
    refine SwingPost.mk (by first | (with_reducible assumption) | decide +kernel) (by first | (with_reducible assumption) | decide +kernel) (by repeat' (first | (with_reducible exact IsMore.refl _) | (with_reducible refine IsMore.alloc ?_ _) | (with_reducible refine IsMore.more ?_ _ _) | (with_reducible refine IsMore.drew ?_))) (by omega) (by omega)
theorem l92Swing_any (W w0 : World) (B g : Nat) (a : Option Addr) (len cap : Nat) (p : Int) (hgb : W.heap[g]? = some (rdObj (.slice a len cap) p)) (hv : HasB w0 B a len) (hbel : Below B w0 W) (hB : B ≤ g) (hl : len ≤ 2000) (hp : 0 ≤ p) (hp2 : p ≤ 10000) :
    Calls Try.prog 29 #[.pointer (some ⟨g, 0, none⟩)] W (SwingPost W g (.slice a len cap) p) := by
  have e := rd_self hgb
  have h := l92Swing_rd W w0 B g a len cap p (lt_rdObjS hgb) hv hbel hB hl hp hp2
  rw [← e] at h
  exact h
def DrewS (W : World) (e : Ending) (w' : World) : Prop := (∃ (x y : Nat) (t s : Int), x < 4294967296 ∧ y < 4294967296 ∧ e = .returned (swv x y t s)) ∧ Below W.heap.size W w'
set_option maxRecDepth 100000 in
set_option maxHeartbeats 4000000 in
theorem drawSwingLost_any (a : Option Addr) (len cap B : Nat) (W W0 : World) (hv : HasB W0 B a len) (hbel : Below B W0 W) (hB : B ≤ W.heap.size) (hl : len ≤ 1048576) (hc : len ≤ cap) :
    Calls Try.prog 11 #[.slice a len cap] W (DrewS W) := by
  go_enter Try.func11, Try.ntmps11
  go_wp2_with (first | (go_at_call 30; refine (open_any _ _ _ _ hl hc).mono ?_; rintro e w' ⟨len', hl1, hl2, rfl, rfl⟩) | (go_at_call 29; refine (l92Swing_any _ W0 B _ a len' cap 0 (by (first | exact heap_alloc_at _ _ (by (first | omega | (simp; omega) | (simp; done))) | ((repeat (first | (refine (heap_alloc_past _ _ ?_).trans ?_; focus (first | omega | (simp; omega) | (simp; done))) | (refine (heap_more_past _ _ _ ?_).trans ?_; focus (first | omega | (simp; omega) | (simp; done))))); exact heap_rd_same (by (first | omega | (simp; omega) | (simp; done)))))) (hv.less hl1) (by repeat' (first | (with_reducible assumption) | (with_reducible exact Below.refl _ _) | (with_reducible refine Below.alloc ?_ ?_ _) | (with_reducible refine below_more ?_ ?_ _ _) | (with_reducible refine below_rd ?_ ?_ _ _) | (with_reducible refine Below.drew ?_) | (first | omega | (simp; omega) | (simp; done)))) (by (first | omega | (simp; omega) | (simp; done))) hl2 (by omega) (by omega)).mono ?_; rintro e w' ⟨x, y, t, s, hx, hy, p1, hp1, hp2, rfl, os1, d1, rfl⟩))
  go_returns
  exact ⟨⟨_, _, _, _, hx, hy, rfl⟩, by repeat' (first | (with_reducible exact Below.refl _ _) | (with_reducible assumption) | (with_reducible refine Below.alloc ?_ ?_ _) | (with_reducible refine below_more ?_ ?_ _ _) | (with_reducible refine below_rd ?_ ?_ _ _) | (with_reducible refine Below.drew ?_) | (with_reducible refine Below.setCell ?_ ?_ _) | go_size)⟩

end Go.Proofs.Ytmoajpkgdimdaaa
