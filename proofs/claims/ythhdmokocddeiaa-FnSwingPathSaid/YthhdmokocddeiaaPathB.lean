/- SwingPath of the program and of the reference; samePoints of the laws. -/
import Derived.Test.YthhdmokocddeiaaPathA
import Derived.Laws.MakeOwn
import Derived.Deep.AppendLies
namespace Go.Proofs.Ythhdmokocddeiaa
open Go.RowKit

/-- SwingPath: whether it is told. -/
def spOk (z : Z2) (t s n : Int) : Bool := swOk z.1 z.2 t s && inB n 1 100 && pvAll (nmZ t.toNat s.toNat z) n.toNat
theorem zrow_of {w : World} {g n t s : Nat} {z : Z2} (h : ∀ i, i < n → w.cell? ⟨g, i, none⟩ = (nmL t s z n)[i]?) : ZRow w g n (nmZ t s z) := fun i hi => by
  rw [h i hi]; simp [nmL, hi]
theorem ownsZ_lt {w : World} {B g n cap : Nat} {zs : List Value} (h : OwnsZ w B (.slice (some ⟨g, 0, none⟩) n cap) n zs) : g < w.heap.size := (World.ownsRow.lt h g rfl).2
theorem ownsZ_cap {w : World} {B g n cap : Nat} {zs : List Value} (h : OwnsZ w B (.slice (some ⟨g, 0, none⟩) n cap) n zs) : n ≤ cap := by
  rcases h.2 with ⟨h0, -⟩ | ⟨g', cap', cur, hv, hb, hg, h1, h2, h3, h4⟩
  · cases h0
  · cases hv; exact h1
theorem pmV_yes (g n : Nat) : pmV g n true = .tuple #[.slice (some ⟨g, 0, none⟩) n n, .bool true] := rfl
theorem pmV_no (g n : Nat) : pmV g n false = .tuple #[.slice none 0 0, .bool false] := rfl
/-- What SwingPath gives: a row of the numbers where it is told, an empty one else. -/
def PathPost (W : World) (z : Z2) (t s n : Int) (e : Ending) (w' : World) : Prop :=
  Below W.heap.size W w' ∧ ((spOk z t s n = true ∧ ∃ g cap, g < w'.heap.size ∧ e = .returned (.tuple #[.slice (some ⟨g, 0, none⟩) n.toNat cap, .bool true]) ∧ ZRow w' g n.toNat (nmZ t.toNat s.toNat z)) ∨
    (spOk z t s n = false ∧ ∃ a, e = .returned (.tuple #[.slice a 0 0, .bool false])))
theorem PathPost.no {W w' : World} {z : Z2} {t s n : Int} {a : Option Addr} (h : spOk z t s n = false) (hb : Below W.heap.size W w') : PathPost W z t s n (.returned (.tuple #[.slice a 0 0, .bool false])) w' := ⟨hb, Or.inr ⟨h, a, rfl⟩⟩
theorem PathPost.yes {W w' : World} {z : Z2} {t s n g cap : Nat} (h : spOk z t s n = true) (hg : g < w'.heap.size) (hr : ZRow w' g n (nmZ t s z)) (hb : Below W.heap.size W w') : PathPost W z t s n (.returned (.tuple #[.slice (some ⟨g, 0, none⟩) n cap, .bool true])) w' := ⟨hb, Or.inl ⟨h, g, cap, hg, rfl, hr⟩⟩
set_option maxRecDepth 100000 in
set_option maxHeartbeats 1000000 in
theorem swingPath_yes (z : Z2) (t s n : Nat) (hz : FinZ z) (ht : t ≤ 3) (hs : s ≤ 4) (h1 : 1 ≤ n) (hn : n ≤ 100) (hok : swOk z.1 z.2 t s = true) (w : World) :
    Calls Try.prog 31 #[swv z.1 z.2 t s, .int .i64 n] w (PathPost w z t s n) := by
  have hin : inB n 1 100 = true := inB_iff.2 ⟨by omega, by omega⟩
  have hsp : spOk z t s n = pvAll (nmZ t s z) n := by rw [spOk, hok, hin]; rfl
  have HS := Lib.hid hsp
  have HZ := Lib.hid hz
  clear hz hsp
  rcases Bool.eq_false_or_eq_true (pvAll (nmZ t s z) n) with hv | hv
  all_goals
    have HV := Lib.hid hv
    clear hv
    go_enter Try.func31, Try.ntmps31
    go_wp2_with (first
      | (go_at_call 15; refine (swingValid_any _ _ _ _ _).mono ?_; rintro e w' ⟨rfl, hb⟩; obtain ⟨os, d, rfl⟩ := more_of_below hb; clear hb)
      | (go_at_call 42; refine (within_any _ _ _ _).mono ?_; rintro e w' ⟨rfl, rfl⟩)
      | (go_at_call 44; refine (numbers_any t s z HZ.out ht hs n (by omega) _).mono ?_; rintro e w2 ⟨g, cap, rfl, hcell, hown, hb⟩; have HB := Lib.hid hb; clear hb; rw [nmL_len] at hcell hown ⊢; have HC := Lib.hid (zrow_of hcell); have HO := Lib.hid hown; clear hcell hown)
      | (go_at_call 54; refine (pathMade_any g cap n (nmZ t s z) _ HC.out h1 hn (ownsZ_cap HO.out)).mono ?_; rintro e w' ⟨rfl, rfl⟩; rw [HV.out]; first | rw [pmV_yes] | rw [pmV_no]))
    go_returns
    first
      | exact PathPost.no (HS.out.trans HV.out) ((by repeat' (first | (with_reducible exact Below.refl _ _) | (with_reducible assumption) | (with_reducible refine Below.alloc ?_ ?_ _) | (with_reducible refine below_more ?_ ?_ _ _) | (with_reducible refine below_rd ?_ ?_ _ _) | (with_reducible refine Below.drew ?_) | (with_reducible refine Below.setCell ?_ ?_ _) | go_size) : Below w.heap.size w (more (w.alloc (.cells #[.complex .f32 z.1 z.2, .int .i64 t, .int .i64 s] 33)) _ _)).trans (HB.out.mono (by (first | omega | (simp; omega) | (simp; done)))))
      | exact PathPost.yes (HS.out.trans HV.out) (ownsZ_lt HO.out) HC.out ((by repeat' (first | (with_reducible exact Below.refl _ _) | (with_reducible assumption) | (with_reducible refine Below.alloc ?_ ?_ _) | (with_reducible refine below_more ?_ ?_ _ _) | (with_reducible refine below_rd ?_ ?_ _ _) | (with_reducible refine Below.drew ?_) | (with_reducible refine Below.setCell ?_ ?_ _) | go_size) : Below w.heap.size w (more (w.alloc (.cells #[.complex .f32 z.1 z.2, .int .i64 t, .int .i64 s] 33)) _ _)).trans (HB.out.mono (by (first | omega | (simp; omega) | (simp; done)))))
theorem empZ {w : World} {B g : Nat} (hg : g = w.heap.size) (hB : B ≤ w.heap.size) (t s : Nat) (z : Z2) : OwnsZ (w.alloc (.cells #[] 31)) B (.slice (some ⟨g, 0, none⟩) 0 0) 0 (nmL t s z 0) :=
  ⟨by simp [nmL], Or.inr ⟨g, 0, #[], rfl, by omega, heap_atZ _ _ hg, Nat.le_refl _, by unfold maxLen; omega, by simp, by simp [nmL]⟩⟩
set_option maxRecDepth 100000 in
set_option maxHeartbeats 2000000 in
theorem specSwingPath_yes (z : Z2) (t s n : Nat) (hz : FinZ z) (ht : t ≤ 3) (hs : s ≤ 4) (h1 : 1 ≤ n) (hn : n ≤ 100) (hok : swOk z.1 z.2 t s = true) (w : World) :
    Calls Try.prog 32 #[swv z.1 z.2 t s, .int .i64 n] w (PathPost w z t s n) := by
  have hin : inB n 1 100 = true := inB_iff.2 ⟨by omega, by omega⟩
  have hsp : spOk z t s n = pvAll (nmZ t s z) n := by rw [spOk, hok, hin]; rfl
  have HS := Lib.hid hsp
  have HZ := Lib.hid hz
  obtain ⟨ic, hi, hz0, hz1, hz2⟩ := infoZ
  have HI := Lib.hid hi
  have HZ0 := Lib.hid hz0
  have HZ1 := Lib.hid hz1
  have HZ2 := Lib.hid hz2
  clear hi hz0 hz1 hz2 hz hsp
  go_enter Try.func32, Try.ntmps32
  go_wp2_with (first
    | (go_at_call 16; refine (specSwingValid_any _ _ _ _ HZ.out.1.1 HZ.out.2.1 _).mono ?_; rintro e w' ⟨rfl, hb⟩; obtain ⟨os, d, rfl⟩ := more_of_below hb; clear hb)
    | (go_at_call 43; refine (l6In_any _ _ _ _).mono ?_; rintro e w' ⟨rfl, rfl⟩))
  go_loopw [6, 7, 8] (fun s6 s7 s8 wr => ∃ (k g cap : Nat), k ≤ n ∧ s6 = .slice (some ⟨g, 0, none⟩) k cap ∧ s7 = .complex .f32 (nmZ t s z k).1 (nmZ t s z k).2 ∧ s8 = .int .i64 k ∧ Hid (OwnsZ wr (w.heap.size + 1) (.slice (some ⟨g, 0, none⟩) k cap) k (nmL t s z k)) ∧ Below (w.heap.size + 1) (w.alloc (.cells #[.complex .f32 z.1 z.2, .int .i64 t, .int .i64 s] 33)) wr) (fun _ _ s8 _ => n - (intOf s8).toNat)
  case atStart => exact ⟨0, _, _, by omega, rfl, rfl, rfl, ((empZ (w := (w.alloc (.cells #[.complex .f32 z.1 z.2, .int .i64 t, .int .i64 s] 33))) (B := w.heap.size + 1) (g := w.heap.size + 1) (by simp) (by simp) t s z).more _ _), by repeat' (first | (with_reducible exact Below.refl _ _) | (with_reducible assumption) | (with_reducible refine Below.alloc ?_ ?_ _) | (with_reducible refine below_more ?_ ?_ _ _) | (with_reducible refine below_rd ?_ ?_ _ _) | (with_reducible refine Below.drew ?_) | (with_reducible refine Below.setCell ?_ ?_ _) | go_size)⟩
  case round =>
    obtain ⟨k, g, cap, hk, rfl, rfl, rfl, hown, hbel⟩ := hrel
    have hsz := hbel.size
    rw [World.size_alloc] at hsz
    have hlw : w.heap.size < wr.heap.size := by omega
    by_cases hlt : k < n
    · have c0 : wr.cell? ⟨w.heap.size, 0, none⟩ = some (.complex .f32 z.1 z.2) := by rw [hbel.cell (p := ⟨w.heap.size, 0, none⟩) (by show w.heap.size < _; omega)]; simp [go_sem]
      have c1 : wr.cell? ⟨w.heap.size, 1, none⟩ = some (.int .i64 t) := by rw [hbel.cell (p := ⟨w.heap.size, 1, none⟩) (by show w.heap.size < _; omega)]; simp [go_sem]
      have c2 : wr.cell? ⟨w.heap.size, 2, none⟩ = some (.int .i64 s) := by rw [hbel.cell (p := ⟨w.heap.size, 2, none⟩) (by show w.heap.size < _; omega)]; simp [go_sem]
      have HP2 := Lib.hid (nmL_succ t s z k)
      have HF := Lib.hid (nmZ_fin (t := t) (s := s) HZ.out k)
      have hle : ∀ j, (Value.slice (some ⟨g, 0, none⟩) k cap).ownBlock = some j → w.heap.size + 1 ≤ j := fun j hj => (World.ownsRow.lt hown.out j hj).1
      have HLE := Lib.hid hle
      clear hle
      go_wp2_with (first
        | (at_builtin; (refine wpList_append_lies _ rfl _ _ _ rfl (w.heap.size + 1) 31 ic (.complex .f32 0 0) 1 8 Try.underlying45 HI.out HZ0.out HZ1.out HZ2.out rfl (by omega) (.slice (some ⟨g, 0, none⟩) k cap) k (nmL t s z k) (by rfl) (World.ownsRow.alloc hown.out _) ⟨wr.heap.size, 0, none⟩ 1 1 #[zv (nmZ t s z k)].toList (by rfl) (by rfl) (World.news_of_block (heap_atZ _ _ (by (first | omega | (simp; omega) | (simp; done))))) (by intro u hu; simp at hu; subst hu; rfl) (by omega) (by unfold maxLen; omega) (by omega) (by (first | omega | (simp; omega) | (simp; done))) _ rfl ?_; intro g2 cap2 w1 hown2 hgrow hat hlt2; have hb1 := below_grownZ (B := w.heap.size + 1) (hbel.alloc (by omega) _) hgrow HLE.out (by (first | omega | (simp; omega) | (simp; done))); have d0 := (hb1.cell (p := ⟨w.heap.size, 0, none⟩) (by show w.heap.size < _; omega)).trans ((hbel.cell (p := ⟨w.heap.size, 0, none⟩) (by show w.heap.size < _; omega)).symm.trans c0); have d1 := (hb1.cell (p := ⟨w.heap.size, 1, none⟩) (by show w.heap.size < _; omega)).trans ((hbel.cell (p := ⟨w.heap.size, 1, none⟩) (by show w.heap.size < _; omega)).symm.trans c1); have d2 := (hb1.cell (p := ⟨w.heap.size, 2, none⟩) (by show w.heap.size < _; omega)).trans ((hbel.cell (p := ⟨w.heap.size, 2, none⟩) (by show w.heap.size < _; omega)).symm.trans c2); have HB1 := Lib.hid hb1; have HO2 := Lib.hid hown2; clear hb1 hown2 hgrow))
        | (go_at_call 47; refine (l11Single_any _ _ t s _ HF.out ht hs _).mono ?_; rintro e w' ⟨rfl, hb⟩; obtain ⟨os, d, rfl⟩ := more_of_below hb; clear hb))
      refine ⟨⟨k + 1, _, _, by omega, rfl, rfl, by go_num, ?_, ?_⟩, by simp [intOf]; omega⟩
      · show OwnsZ _ _ _ _ _
        rw [HP2.out]
        exact OwnsZ.more HO2.out _ _
      · exact below_more HB1.out (by have := HB1.out.size; simp at this; omega) _ _
    · obtain rfl : k = n := by omega
      have HR : Hid (ZRow wr g k (nmZ t s z)) := zrow_of fun i hi => World.ownsRow.cellAt hown.out i (by omega)
      have HB2 : Hid (Below w.heap.size w wr) := ((Below.refl _ w).alloc (Nat.le_refl _) _).trans (hbel.mono (by omega))
      have HG := Lib.hid (ownsZ_lt hown.out)
      clear hbel hown
      rcases Bool.eq_false_or_eq_true (pvAll (nmZ t s z) k) with hv | hv
      all_goals
        have HV := Lib.hid hv
        clear hv
        go_wp2_with (go_at_call 55; refine (specPathValid_any g cap k (nmZ t s z) _ HR.out h1 hn).mono ?_; rw [HV.out]; rintro e w' ⟨rfl, rfl⟩)
        go_returns
        first
          | exact PathPost.no (HS.out.trans HV.out) (HB2.out.alloc (by (first | omega | (simp; omega) | (simp; done))) _)
          | exact PathPost.yes (HS.out.trans HV.out) HG.out HR.out HB2.out
end Go.Proofs.Ythhdmokocddeiaa
