/- Rows that the reference draws: whatever the code, some row comes back, and nothing old has turned. -/
import Derived.Test.YtelgbmebjickeaaDrawD
import Derived.Test.YtelgbmebjickeaaOpen
import Derived.Test.YtelgbmebjickeaaRowF
namespace Go.Proofs.Ytelgbmebjickeaa
open Go.RowKit

theorem grown_rd {w : World} {g : Nat} {v : Value} {p : Int} : w.grownBy (rd w g v p) (some g) :=
  ⟨rfl, rfl, rfl, by rw [size_rd]; omega, fun k _ hk => heap_rd_other k (fun e => hk (by rw [e]))⟩
theorem grown_trans {w w1 w2 : World} {r : Option Nat} (h : w.grownBy w1 r) (h2 : w1.grownBy w2 r) : w.grownBy w2 r :=
  ⟨h2.os.trans h.os, h2.tape.trans h.tape, h2.output.trans h.output, Nat.le_trans h.size h2.size, fun k hk hne => (h2.block k (Nat.lt_of_lt_of_le hk h.size) hne).trans (h.block k hk hne)⟩
theorem grown_below {w w1 w2 : World} {r : Option Nat} (h : w.grownBy w1 r) (h2 : Below w.heap.size w1 w2) : w.grownBy w2 r :=
  ⟨h2.os.trans h.os, h2.tape.trans h.tape, h2.output.trans h.output, Nat.le_trans h.size h2.size, fun k hk hne => (h2.block k hk).trans (h.block k hk hne)⟩
theorem grown_own {w w1 w2 : World} {r : Option Nat} {v : Value} (h : w.grownBy w1 r) (h2 : w1.grownBy w2 v.ownBlock) (hv : ∀ k, v.ownBlock = some k → w.heap.size ≤ k) : w.grownBy w2 r :=
  ⟨h2.os.trans h.os, h2.tape.trans h.tape, h2.output.trans h.output, Nat.le_trans h.size h2.size, fun k hk hne => (h2.block k (Nat.lt_of_lt_of_le hk h.size) (fun e => by have := hv k e.symm; omega)).trans (h.block k hk hne)⟩
theorem below_grown_rd {B : Nat} {w0 w w' : World} {g : Nat} (h : Below B w0 w) (hg : w.grownBy w' (some g)) (hB : B ≤ g) (hs : g < w.heap.size) : Below B w0 w' :=
  Below.grown h hg (by omega) (fun k e => by cases e; exact hB)
theorem lt_rdObj {w : World} {g : Nat} {o : Obj} (h : w.heap[g]? = some o) : g < w.heap.size := (Array.getElem?_eq_some_iff.1 h).1

/-- Behind a draw, in a world of which only this is told: the reader stands somewhat further on. -/
def RdSt (w : World) (g : Nat) (sl : Value) (p m : Int) (w' : World) : Prop := w.grownBy w' (some g) ∧ ∃ p', p ≤ p' ∧ p' ≤ p + m ∧ w'.heap[g]? = some (rdObj sl p')
def LenPost (w : World) (g : Nat) (v : Value) (p : Int) (e : Ending) (w' : World) : Prop := ∃ n : Nat, 1 ≤ n ∧ n ≤ 12 ∧ DrawPost w g v p 1 (.int .i64 n) e w'
def RowDraw (w : World) (g : Nat) (sl : Value) (p m : Int) (e : Ending) (w' : World) : Prop := ∃ (v : Value) (xs : List C8), e = .returned v ∧ xs.length ≤ 13 ∧ OwnsP w' w.heap.size v xs ∧ RdSt w g sl p m w'

theorem len_mk {w w' : World} {g : Nat} {v : Value} {p p' : Int} (n : Nat) (h0 : 1 ≤ n) (h3 : n ≤ 12) (h : IsMore (rd w g v p') w') (h1 : p ≤ p') (h2 : p' ≤ p + 1) : LenPost w g v p (.returned (.int .i64 n)) w' := ⟨n, h0, h3, DrawPost.mk h h1 h2⟩
set_option maxRecDepth 100000 in
set_option maxHeartbeats 4000000 in
theorem l91Length_rd (w w0 : World) (B g : Nat) (a : Option Addr) (len cap : Nat) (p : Int) (hg : g < w.heap.size) (hv : HasB w0 B a len) (hbel : Below B w0 w) (hB : B ≤ g) (hl : len ≤ 2000) (hp : 0 ≤ p) (hp2 : p ≤ 100000) :
    Calls Try.prog 52 #[.pointer (some ⟨g, 0, none⟩)] (rd w g (.slice a len cap) p) (LenPost w g (.slice a len cap) p) := by
  go_enter Try.func52, Try.ntmps52
  go_wp2_with fail
  (go_at_call 53; refine (pick_any _ w0 B g a len cap _ _ (by ((repeat (first | (refine (heap_alloc_past _ _ ?_).trans ?_; focus (first | omega | (simp; omega) | (simp; done))) | (refine (heap_more_past _ _ _ ?_).trans ?_; focus (first | omega | (simp; omega) | (simp; done))))); exact heap_rd_same (by (first | omega | (simp; omega) | (simp; done))))) hv (by repeat' (first | (with_reducible assumption) | (with_reducible exact Below.refl _ _) | (with_reducible refine Below.alloc ?_ ?_ _) | (with_reducible refine below_more ?_ ?_ _ _) | (with_reducible refine below_rd ?_ ?_ _ _) | (with_reducible refine Below.drew ?_) | (first | omega | (simp; omega) | (simp; done)))) hB hl (by omega) (by omega) (by omega)).mono ?_; rintro e w' ⟨k, dk, rfl, ⟨hk0, hk1, -⟩, rfl⟩; have hk1 := hk1 (by omega))
  have hks : k = 0 ∨ k = 1 ∨ k = 2 ∨ k = 3 ∨ k = 4 ∨ k = 5 ∨ k = 6 ∨ k = 7 ∨ k = 8 ∨ k = 9 := by omega
  rcases hks with rfl | rfl | rfl | rfl | rfl | rfl | rfl | rfl | rfl | rfl
  all_goals
    clear hk0 hk1
    go_wp2
    go_ret
  all_goals first
    | exact len_mk 1 (by omega) (by omega) (by repeat' (first | (with_reducible exact IsMore.refl _) | (with_reducible refine IsMore.alloc ?_ _) | (with_reducible refine IsMore.more ?_ _ _) | (with_reducible refine IsMore.drew ?_))) (by omega) (by omega)
    | exact len_mk 2 (by omega) (by omega) (by repeat' (first | (with_reducible exact IsMore.refl _) | (with_reducible refine IsMore.alloc ?_ _) | (with_reducible refine IsMore.more ?_ _ _) | (with_reducible refine IsMore.drew ?_))) (by omega) (by omega)
    | exact len_mk 3 (by omega) (by omega) (by repeat' (first | (with_reducible exact IsMore.refl _) | (with_reducible refine IsMore.alloc ?_ _) | (with_reducible refine IsMore.more ?_ _ _) | (with_reducible refine IsMore.drew ?_))) (by omega) (by omega)
    | exact len_mk 4 (by omega) (by omega) (by repeat' (first | (with_reducible exact IsMore.refl _) | (with_reducible refine IsMore.alloc ?_ _) | (with_reducible refine IsMore.more ?_ _ _) | (with_reducible refine IsMore.drew ?_))) (by omega) (by omega)
    | exact len_mk 6 (by omega) (by omega) (by repeat' (first | (with_reducible exact IsMore.refl _) | (with_reducible refine IsMore.alloc ?_ _) | (with_reducible refine IsMore.more ?_ _ _) | (with_reducible refine IsMore.drew ?_))) (by omega) (by omega)
    | exact len_mk 8 (by omega) (by omega) (by repeat' (first | (with_reducible exact IsMore.refl _) | (with_reducible refine IsMore.alloc ?_ _) | (with_reducible refine IsMore.more ?_ _ _) | (with_reducible refine IsMore.drew ?_))) (by omega) (by omega)
    | exact len_mk 12 (by omega) (by omega) (by repeat' (first | (with_reducible exact IsMore.refl _) | (with_reducible refine IsMore.alloc ?_ _) | (with_reducible refine IsMore.more ?_ _ _) | (with_reducible refine IsMore.drew ?_))) (by omega) (by omega)
theorem l91Length_any (W w0 : World) (B g : Nat) (a : Option Addr) (len cap : Nat) (p : Int) (hgb : W.heap[g]? = some (rdObj (.slice a len cap) p)) (hv : HasB w0 B a len) (hbel : Below B w0 W) (hB : B ≤ g) (hl : len ≤ 2000) (hp : 0 ≤ p) (hp2 : p ≤ 100000) :
    Calls Try.prog 52 #[.pointer (some ⟨g, 0, none⟩)] W fun e w' => ∃ n : Nat, e = .returned (.int .i64 n) ∧ 1 ≤ n ∧ n ≤ 12 ∧ RdSt W g (.slice a len cap) p 1 w' := by
  have e := rd_self hgb
  have hg := lt_rdObj hgb
  have h := l91Length_rd W w0 B g a len cap p hg hv hbel hB hl hp hp2
  rw [← e] at h
  refine h.mono fun e w' ⟨n, h1, h2, p', h3, h4, he, os, d, hw⟩ => ?_
  subst hw
  exact ⟨n, he, h1, h2, grown_below grown_rd (below_more (Below.refl _ _) (by simp) _ _), p', h3, h4, by rw [heap_more _ (by simp; exact hg)]; exact heap_rd_same hg⟩
set_option maxRecDepth 100000 in
set_option maxHeartbeats 4000000 in
theorem l91Row_any (W w0 : World) (B g : Nat) (a : Option Addr) (len cap n : Nat) (p : Int) (hgb : W.heap[g]? = some (rdObj (.slice a len cap) p)) (hv : HasB w0 B a len) (hbel : Below B w0 W) (hB : B ≤ g) (hl : len ≤ 2000) (hp : 0 ≤ p) (hp2 : p ≤ 10000) (hn : n ≤ 12) :
    Calls Try.prog 51 #[.pointer (some ⟨g, 0, none⟩), .int .i64 n] W (RowDraw W g (.slice a len cap) p 300) := by
  have hg := lt_rdObj hgb
  obtain ⟨ic, hi, hz0, hz1, hz2⟩ := infoC
  have HI := Lib.hid hi
  have HZ0 := Lib.hid hz0
  have HZ1 := Lib.hid hz1
  have HZ2 := Lib.hid hz2
  have HG := Lib.hid hgb
  clear hi hz0 hz1 hz2 hgb
  go_enter Try.func51, Try.ntmps51
  go_wp2
  go_loopw [5, 6] (fun s5 s wr => ∃ (i : Nat) (v : Value) (xs : List C8) (p' : Int), i ≤ n ∧ s = .int .i64 i ∧ v = s5 ∧ Hid (xs.length = i) ∧ Hid (OwnsP wr W.heap.size v xs) ∧ Hid (wr.heap[g]? = some (rdObj (.slice a len cap) p')) ∧ p ≤ p' ∧ p' ≤ p + 20 * i ∧ W.grownBy wr (some g)) (fun _ s _ => n - (intOf s).toNat)
  case atStart => exact ⟨0, _, [], p, by omega, rfl, rfl, rfl, OwnsP.empty rfl (Nat.le_refl _), by (exact (Below.heap_alloc _ _ _ hg).trans HG.out), by omega, by omega, World.grownBy_alloc _ _ _⟩
  case round =>
    obtain ⟨i, v, xs, p', hi, rfl, rfl, hxl, hown, hrd, hp3, hp4, hgr⟩ := hrel
    have hs := hgr.size
    have hgr' := lt_rdObj hrd.out
    have hne : v.ownBlock ≠ some g := fun e => by have := hown.out.own_le _ e; omega
    by_cases hlt : i < n
    · go_wp2_with fail
      refine (l91Cyc_any wr w0 B g a len cap p' hrd.out hv (below_grown_rd hbel hgr hB hg) hB hl (by omega) (by omega)).mono ?_
      rintro e w1 ⟨c, p1, hp5, hp6, rfl, os, d, rfl⟩
      have hown1 : OwnsP (rd wr g (.slice a len cap) p1) W.heap.size v xs := World.ownsRow.kept hown.out grown_rd (Or.inr hne)
      have HO := Lib.hid hown1
      clear hown1
      go_wp2_with (at_builtin; (refine wpList_append_lies _ rfl _ _ _ rfl W.heap.size 42 ic (cv C8.zero) 8 64 Try.underlying24 HI.out HZ0.out HZ1.out HZ2.out rfl (by omega) v xs.length (rowsV xs).toList (by rfl) ((HO.out.more _ _).alloc _) ⟨wr.heap.size + os.size, 0, none⟩ 1 1 (row c).toList (by rfl) (by rfl) (World.news_of_block (heap_at2 _ _ (by (first | omega | (simp; omega) | (simp; done))))) (rowL_ones _) (by omega) (by have := hxl.out; unfold maxLen; omega) (by have := hxl.out; omega) (by (first | omega | (simp; omega) | (simp; done))) _ rfl ?_; intro g2 cap2 w2 hown2 hgrow hat hlt2))
      have hg2 : (((Go.Proofs.Ytelgbmebjickeaa.more (rd wr g (.slice a len cap) p1) os d).alloc (.cells (row c) 42))).heap[g]? = some (rdObj (.slice a len cap) p1) := by
        rw [Below.heap_alloc _ _ _ (by simp; omega), heap_more _ (by simp; exact hgr')]; exact heap_rd_same hgr'
      refine ⟨⟨i + 1, _, xs ++ [c], p1, by omega, by go_num, rfl, ?_, OwnsP.snoc hown2, ?_, by omega, by omega, ?_⟩, by simp [intOf]; omega⟩
      · show (xs ++ [c]).length = i + 1
        rw [List.length_append, hxl.out]; rfl
      · exact (hgrow.block g (by simp; omega) (fun e => hne e.symm)).trans hg2
      · exact grown_own (grown_below (grown_trans hgr grown_rd) (by repeat' (first | (with_reducible exact Below.refl _ _) | (with_reducible assumption) | (with_reducible refine Below.alloc ?_ ?_ _) | (with_reducible refine below_more ?_ ?_ _ _) | (with_reducible refine below_rd ?_ ?_ _ _) | (with_reducible refine Below.drew ?_) | (with_reducible refine Below.setCell ?_ ?_ _) | go_size))) hgrow hown.out.own_le
    · obtain rfl : i = n := by omega
      go_wp2_with fail
      refine (pick_any wr w0 B g a len cap p' 30 hrd.out hv (below_grown_rd hbel hgr hB hg) hB hl (by omega) (by omega) (by omega)).mono ?_
      rintro e w' ⟨k, dk, rfl, ⟨hk0, hk1, -⟩, rfl⟩
      have hown1 : OwnsP (rd wr g (.slice a len cap) (p' + 1)) W.heap.size v xs := World.ownsRow.kept hown.out grown_rd (Or.inr hne)
      have HO := Lib.hid hown1
      clear hown1
      have hg1 : (rd wr g (.slice a len cap) (p' + 1)).heap[g]? = some (rdObj (.slice a len cap) (p' + 1)) := heap_rd_same hgr'
      have HG1 := Lib.hid hg1
      clear hg1
      by_cases hk : k = 0
      · subst hk
        clear hk0 hk1
        go_wp2_with (at_builtin; (refine wpList_append_lies _ rfl _ _ _ rfl W.heap.size 42 ic (cv C8.zero) 8 64 Try.underlying24 HI.out HZ0.out HZ1.out HZ2.out rfl (by omega) v xs.length (rowsV xs).toList (by rfl) ((HO.out.more _ _).alloc _) ⟨wr.heap.size, 0, none⟩ 1 1 (row C8.zero).toList (by rfl) (by rfl) (World.news_of_block (heap_at2 _ _ (by (first | omega | (simp; omega) | (simp; done))))) (rowL_ones _) (by omega) (by have := hxl.out; unfold maxLen; omega) (by have := hxl.out; omega) (by (first | omega | (simp; omega) | (simp; done))) _ rfl ?_; intro g2 cap2 w2 hown2 hgrow hat hlt2))
        go_returns
        refine ⟨_, xs ++ [C8.zero], rfl, ?_, OwnsP.snoc hown2, ?_, p' + 1, by omega, by omega, ?_⟩
        · rw [List.length_append, hxl.out]; show i + 1 ≤ 13; omega
        · exact grown_own (grown_below (grown_trans hgr grown_rd) (by repeat' (first | (with_reducible exact Below.refl _ _) | (with_reducible assumption) | (with_reducible refine Below.alloc ?_ ?_ _) | (with_reducible refine below_more ?_ ?_ _ _) | (with_reducible refine below_rd ?_ ?_ _ _) | (with_reducible refine Below.drew ?_) | (with_reducible refine Below.setCell ?_ ?_ _) | go_size))) hgrow hown.out.own_le
        · refine (hgrow.block g (by simp; omega) (fun e => hne e.symm)).trans ?_
          rw [Below.heap_alloc _ _ _ (by simp; omega), heap_more _ (by simp; exact hgr')]; exact HG1.out
      · have e0 : (k == 0) = false := by rw [beq_eq_false_iff_ne]; omega
        go_wp2
        go_returns
        refine ⟨_, xs, rfl, by rw [hxl.out]; omega, HO.out.more _ _, ?_, p' + 1, by omega, by omega, ?_⟩
        · exact grown_below (grown_trans hgr grown_rd) (by repeat' (first | (with_reducible exact Below.refl _ _) | (with_reducible assumption) | (with_reducible refine Below.alloc ?_ ?_ _) | (with_reducible refine below_more ?_ ?_ _ _) | (with_reducible refine below_rd ?_ ?_ _ _) | (with_reducible refine Below.drew ?_) | (with_reducible refine Below.setCell ?_ ?_ _) | go_size))
        · rw [heap_more _ (by simp; exact hgr')]; exact HG1.out
end Go.Proofs.Ytelgbmebjickeaa
