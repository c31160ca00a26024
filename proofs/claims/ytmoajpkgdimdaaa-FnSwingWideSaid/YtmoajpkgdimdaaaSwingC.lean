/- Swings: the numbers, SwingAt of the program and of the reference. -/
import Derived.Test.YtmoajpkgdimdaaaSwingB
import Derived.Laws.MakeOwn
import Derived.Deep.AppendLies
namespace Go.Proofs.Ytmoajpkgdimdaaa
open Go.RowKit

def nmL (t s : Nat) (z : Z2) (k : Nat) : List Value := (List.range k).map fun i => zv (nmZ t s z i)
theorem nmL_succ (t s : Nat) (z : Z2) (k : Nat) : nmL t s z (k + 1) = nmL t s z k ++ [zv (nmZ t s z k)] := by simp [nmL, List.range_succ]
theorem nmL_len (t s : Nat) (z : Z2) (k : Nat) : (nmL t s z k).length = k := by simp [nmL]
def lenV : Value → Nat
  | .slice _ n _ => n
  | _ => 0
theorem zeroZ : (Try.prog.info? 23).map (fun i => (i.zero, i.size, i.bytes)) = some (some (.complex .f32 0 0), 1, 8) := by kernel_rfl
theorem infoZ : ∃ i, Try.prog.info? 23 = some i ∧ i.zero = some (.complex .f32 0 0) ∧ i.size = 1 ∧ i.bytes = 8 := by
  have h0 := zeroZ
  cases hq : Try.prog.info? 23 with
  | none => rw [hq] at h0; cases h0
  | some i =>
    rw [hq] at h0
    simp only [Option.map_some, Option.some.injEq, Prod.mk.injEq] at h0
    exact ⟨i, rfl, h0.1, h0.2.1, h0.2.2⟩
/-- A row of complex numbers that the call owns. -/
def OwnsZ (w : World) (B : Nat) (v : Value) (n : Nat) (zs : List Value) : Prop := w.ownsRow B 23 1 v n zs
theorem OwnsZ.more {w : World} {B n : Nat} {v : Value} {zs : List Value} (h : OwnsZ w B v n zs) (os : Array Obj) (d : Nat) : OwnsZ (more w os d) B v n zs := by
  refine ⟨h.1, ?_⟩
  rcases h.2 with h0 | ⟨g, cap, cur, hv, hb, hg, h1, h2, h3, h4⟩
  · exact Or.inl h0
  · refine Or.inr ⟨g, cap, cur, hv, hb, ?_, h1, h2, h3, h4⟩
    rw [heap_more g (Array.getElem?_eq_some_iff.1 hg).1]
    exact hg
theorem below_grownZ {B : Nat} {a w w' : World} {v : Value} (h : Below B a w) (hg : w.grownBy w' v.ownBlock) (hB : ∀ k, v.ownBlock = some k → B ≤ k) (hs : B ≤ w.heap.size) : Below B a w' :=
  h.trans ⟨hg.os, hg.tape, hg.output, hg.size, fun k hk => hg.block k (by omega) (fun e => by have := hB k e.symm; omega)⟩
theorem heap_atZ {w : World} (o : Obj) (n : Nat) (hn : n = w.heap.size) : (w.alloc o).heap[n]? = some o := by subst hn; exact heap_alloc_new w o
theorem mkZ (n : Nat) (h : n ≤ 1048576) (w : World) : ∃ cs : Array Value, cs.size = n ∧ (Instr.makeSlice 57 (.int .i64 0) (.int .i64 (n : Int))).run Try.prog w = .ok (.slice (some ⟨w.heap.size, 0, none⟩) 0 n) (w.alloc (.cells cs 23)) := by
  obtain ⟨i, hi, h0, h1, h2⟩ := infoZ
  have := run_make (P := Try.prog) w 57 23 i (.complex .f32 0 0) Try.underlying57 hi h0 .i64 .i64 0 n (by omega) (by omega) (by rw [h2]; omega) (by omega)
  refine ⟨madeCells (Value.complex .f32 0 0).cells (n * i.size), by rw [size_madeCells, h1, Nat.mul_one], ?_⟩
  rw [this]
  simp only [Int.toNat_natCast, Int.toNat_zero]

/-- What numbers gives. -/
def NumPost (w : World) (zs : List Value) (e : Ending) (w' : World) : Prop := ∃ (g cap : Nat), e = .returned (.slice (some ⟨g, 0, none⟩) zs.length cap) ∧ (∀ i, i < zs.length → w'.cell? ⟨g, i, none⟩ = zs[i]?) ∧ OwnsZ w' w.heap.size (.slice (some ⟨g, 0, none⟩) zs.length cap) zs.length zs ∧ Below w.heap.size w w'
set_option maxRecDepth 100000 in
set_option maxHeartbeats 1000000 in
theorem numbers_any (t s : Nat) (z : Z2) (hz : FinZ z) (ht : t ≤ 3) (hs : s ≤ 4) (n : Nat) (hn : n ≤ 1000) (w : World) :
    Calls Try.prog 25 #[swv z.1 z.2 t s, .int .i64 n] w (NumPost w (nmL t s z n)) := by
  have HZ := Lib.hid hz
  obtain ⟨cs, hcs, hmk⟩ := mkZ n (by omega) (w.alloc (.cells #[.complex .f32 z.1 z.2, .int .i64 t, .int .i64 s] 25))
  obtain ⟨ic, hi, hz0, hz1, hz2⟩ := infoZ
  have HI := Lib.hid hi
  have HZ0 := Lib.hid hz0
  have HZ1 := Lib.hid hz1
  have HZ2 := Lib.hid hz2
  have HCS := Lib.hid hcs
  clear hi hz0 hz1 hz2 hcs hz
  go_enter Try.func25, Try.ntmps25
  go_wp2_with fail
  go_loopw [5, 6] (fun s5 s6 wr => ∃ (k g cap : Nat), k ≤ n ∧ s5 = .slice (some ⟨g, 0, none⟩) k cap ∧ s6 = .complex .f32 (nmZ t s z k).1 (nmZ t s z k).2 ∧ Hid (OwnsZ wr (w.heap.size + 1) (.slice (some ⟨g, 0, none⟩) k cap) k (nmL t s z k)) ∧ Below (w.heap.size + 1) (w.alloc (.cells #[.complex .f32 z.1 z.2, .int .i64 t, .int .i64 s] 25)) wr) (fun s5 _ _ => n - lenV s5)
  case atStart => exact ⟨0, _, _, by omega, rfl, rfl, ⟨by simp [nmL], Or.inr ⟨w.heap.size + 1, n, cs, rfl, Nat.le_refl _, heap_atZ _ _ (by simp), Nat.zero_le _, by unfold maxLen; omega, by rw [HCS.out]; omega, by simp [nmL]⟩⟩, by repeat' (first | (with_reducible exact Below.refl _ _) | (with_reducible assumption) | (with_reducible refine Below.alloc ?_ ?_ _) | (with_reducible refine below_more ?_ ?_ _ _) | (with_reducible refine below_rd ?_ ?_ _ _) | (with_reducible refine Below.drew ?_) | (with_reducible refine Below.setCell ?_ ?_ _) | go_size)⟩
  case round =>
    obtain ⟨k, g, cap, hk, rfl, rfl, hown, hbel⟩ := hrel
    have hsz := hbel.size
    rw [World.size_alloc] at hsz
    have hlw : w.heap.size < wr.heap.size := by omega
    by_cases hlt : k < n
    · have c0 : wr.cell? ⟨w.heap.size, 0, none⟩ = some (.complex .f32 z.1 z.2) := by rw [hbel.cell (p := ⟨w.heap.size, 0, none⟩) (by show w.heap.size < _; omega)]; simp [go_sem]
      have c1 : wr.cell? ⟨w.heap.size, 1, none⟩ = some (.int .i64 t) := by rw [hbel.cell (p := ⟨w.heap.size, 1, none⟩) (by show w.heap.size < _; omega)]; simp [go_sem]
      have c2 : wr.cell? ⟨w.heap.size, 2, none⟩ = some (.int .i64 s) := by rw [hbel.cell (p := ⟨w.heap.size, 2, none⟩) (by show w.heap.size < _; omega)]; simp [go_sem]
      have HP2 := Lib.hid (nmL_succ t s z k)
      have HF := Lib.hid (nmZ_fin (t := t) (s := s) HZ.out k)
      have hle : ∀ j, (Value.slice (some ⟨g, 0, none⟩) k cap).ownBlock = some j → w.heap.size + 1 ≤ j := fun j hj => (World.ownsRow.lt hown.out j hj).1
      have HLE := Lib.hid hle
      clear hle
      go_wp2_with (first
        | (at_builtin; (refine wpList_append_lies _ rfl _ _ _ rfl (w.heap.size + 1) 23 ic (.complex .f32 0 0) 1 8 Try.underlying57 HI.out HZ0.out HZ1.out HZ2.out rfl (by omega) (.slice (some ⟨g, 0, none⟩) k cap) k (nmL t s z k) (by rfl) (World.ownsRow.alloc hown.out _) ⟨wr.heap.size, 0, none⟩ 1 1 #[zv (nmZ t s z k)].toList (by rfl) (by rfl) (World.news_of_block (heap_atZ _ _ (by (first | omega | (simp; omega) | (simp; done))))) (by intro u hu; simp at hu; subst hu; rfl) (by omega) (by unfold maxLen; omega) (by omega) (by (first | omega | (simp; omega) | (simp; done))) _ rfl ?_; intro g2 cap2 w1 hown2 hgrow hat hlt2; have hb1 := below_grownZ (B := w.heap.size + 1) (hbel.alloc (by omega) _) hgrow HLE.out (by (first | omega | (simp; omega) | (simp; done))); have d0 := (hb1.cell (p := ⟨w.heap.size, 0, none⟩) (by show w.heap.size < _; omega)).trans ((hbel.cell (p := ⟨w.heap.size, 0, none⟩) (by show w.heap.size < _; omega)).symm.trans c0); have d1 := (hb1.cell (p := ⟨w.heap.size, 1, none⟩) (by show w.heap.size < _; omega)).trans ((hbel.cell (p := ⟨w.heap.size, 1, none⟩) (by show w.heap.size < _; omega)).symm.trans c1); have d2 := (hb1.cell (p := ⟨w.heap.size, 2, none⟩) (by show w.heap.size < _; omega)).trans ((hbel.cell (p := ⟨w.heap.size, 2, none⟩) (by show w.heap.size < _; omega)).symm.trans c2); have HB1 := Lib.hid hb1; have HO2 := Lib.hid hown2; clear hb1 hown2 hgrow))
        | (go_at_call 50; refine (step_any _ _ t s _ HF.out ht hs _).mono ?_; rintro e w' ⟨rfl, hb⟩; obtain ⟨os, d, rfl⟩ := more_of_below hb; clear hb))
      refine ⟨⟨k + 1, _, _, by omega, rfl, rfl, ?_, ?_⟩, by simp [lenV]; omega⟩
      · show OwnsZ _ _ _ _ _
        rw [HP2.out]
        exact OwnsZ.more HO2.out _ _
      · exact below_more HB1.out (by have := HB1.out.size; simp at this; omega) _ _
    · obtain rfl : k = n := by omega
      have HN := Lib.hid (nmL_len t s z k)
      go_wp2
      go_returns
      refine ⟨g, cap, by rw [HN.out]; rfl, fun i hi => ?_, ?_, ?_⟩
      · rw [HN.out] at hi
        exact World.ownsRow.cellAt hown.out i (by omega)
      · rw [HN.out]
        exact ⟨hown.out.1, hown.out.2.imp id (fun ⟨g, cap, cur, a, b, c⟩ => ⟨g, cap, cur, a, by omega, c⟩)⟩
      · exact (((Below.refl _ w).alloc (Nat.le_refl _) _).trans (hbel.mono (by omega)))

/-- SwingAt: whether it is told, and the number. -/
def saOk (z : Z2) (t s k : Int) : Bool := swOk z.1 z.2 t s && inB k 0 400
def saZ (z : Z2) (t s k : Int) : Z2 := if saOk z t s k = true then nmZ t.toNat s.toNat z k.toNat else (0, 0)
theorem swOk_get {z : Z2} {t s : Int} (h1 : z.1 < 4294967296) (h2 : z.2 < 4294967296) (h : swOk z.1 z.2 t s = true) : FinZ z ∧ ∃ t' s' : Nat, t = t' ∧ s = s' ∧ t' ≤ 3 ∧ s' ≤ 4 := by
  simp only [swOk, Bool.and_eq_true] at h
  obtain ⟨⟨⟨a, b⟩, c⟩, d⟩ := h
  have c := inB_iff.1 c
  have d := inB_iff.1 d
  obtain ⟨t', rfl⟩ := Int.eq_ofNat_of_zero_le c.1
  obtain ⟨s', rfl⟩ := Int.eq_ofNat_of_zero_le d.1
  exact ⟨⟨(finB_iff h1).1 a, (finB_iff h2).1 b⟩, t', s', rfl, rfl, by omega, by omega⟩
set_option maxRecDepth 100000 in
set_option maxHeartbeats 1000000 in
theorem swingAt_yes (z : Z2) (t s k : Nat) (hz : FinZ z) (ht : t ≤ 3) (hs : s ≤ 4) (hk : k ≤ 400) (hok : swOk z.1 z.2 t s = true) (w : World) :
    Calls Try.prog 10 #[swv z.1 z.2 t s, .int .i64 k] w fun e w' => e = .returned (.tuple #[zv (nmZ t s z k), .bool true]) ∧ Below w.heap.size w w' := by
  have hin : inB k 0 400 = true := inB_iff.2 ⟨by omega, by omega⟩
  have HZ := Lib.hid hz
  clear hz
  go_enter Try.func10, Try.ntmps10
  go_wp2_with (first
    | (go_at_call 15; refine (swingValid_any _ _ _ _ _).mono ?_; rintro e w' ⟨rfl, hb⟩; obtain ⟨os, d, rfl⟩ := more_of_below hb; clear hb)
    | (go_at_call 16; refine (within_any _ _ _ _).mono ?_; rintro e w' ⟨rfl, rfl⟩)
    | (go_at_call 25; refine (numbers_any t s z HZ.out ht hs (k + 1) (by omega) _).mono ?_; rintro e w2 ⟨g, cap, rfl, hcell, -, hb⟩; have HB := Lib.hid hb; clear hb; rw [nmL_len] at hcell ⊢; have ck := hcell k (by omega); rw [show (nmL t s z (k + 1))[k]? = some (zv (nmZ t s z k)) by simp [nmL]] at ck; clear hcell))
  go_returns
  exact ⟨rfl, (by repeat' (first | (with_reducible exact Below.refl _ _) | (with_reducible assumption) | (with_reducible refine Below.alloc ?_ ?_ _) | (with_reducible refine below_more ?_ ?_ _ _) | (with_reducible refine below_rd ?_ ?_ _ _) | (with_reducible refine Below.drew ?_) | (with_reducible refine Below.setCell ?_ ?_ _) | go_size) : Below w.heap.size w (more (w.alloc (.cells #[.complex .f32 z.1 z.2, .int .i64 t, .int .i64 s] 25)) _ _)).trans (HB.out.mono (by (first | omega | (simp; omega) | (simp; done))))⟩
theorem swingAt_any (z : Z2) (t s k : Int) (h1 : z.1 < 4294967296) (h2 : z.2 < 4294967296) (w : World) :
    Calls Try.prog 10 #[swv z.1 z.2 t s, .int .i64 k] w fun e w' => e = .returned (.tuple #[zv (saZ z t s k), .bool (saOk z t s k)]) ∧ Below w.heap.size w w' := by
  rcases Bool.eq_false_or_eq_true (swOk z.1 z.2 t s) with hv | hv
  · rcases Bool.eq_false_or_eq_true (inB k 0 400) with hk | hk
    · obtain ⟨hz, t', s', rfl, rfl, ht, hs⟩ := swOk_get h1 h2 hv
      have hk' := inB_iff.1 hk
      obtain ⟨k', rfl⟩ := Int.eq_ofNat_of_zero_le hk'.1
      have e : saOk z (t' : Int) (s' : Int) (k' : Int) = true := by rw [saOk, hv, hk]; rfl
      rw [e, show saZ z (t' : Int) (s' : Int) (k' : Int) = nmZ t' s' z k' by rw [saZ, if_pos e]; rfl]
      exact swingAt_yes z t' s' k' hz ht hs (by omega) hv w
    · have HO := Lib.hid (show saOk z t s k = false ∧ saZ z t s k = (0, 0) from by
        have e : saOk z t s k = false := by rw [saOk, hk, Bool.and_false]
        exact ⟨e, by rw [saZ, e]; rfl⟩)
      go_enter Try.func10, Try.ntmps10
      go_wp2_with (first
        | (go_at_call 15; refine (swingValid_any _ _ _ _ _).mono ?_; rintro e w' ⟨rfl, hb⟩; obtain ⟨os, d, rfl⟩ := more_of_below hb; clear hb)
        | (go_at_call 16; refine (within_any _ _ _ _).mono ?_; rintro e w' ⟨rfl, rfl⟩))
      go_returns
      exact ⟨by rw [HO.out.1, HO.out.2]; rfl, by repeat' (first | (with_reducible exact Below.refl _ _) | (with_reducible assumption) | (with_reducible refine Below.alloc ?_ ?_ _) | (with_reducible refine below_more ?_ ?_ _ _) | (with_reducible refine below_rd ?_ ?_ _ _) | (with_reducible refine Below.drew ?_) | (with_reducible refine Below.setCell ?_ ?_ _) | go_size)⟩
  · have HO := Lib.hid (show saOk z t s k = false ∧ saZ z t s k = (0, 0) from by
      have e : saOk z t s k = false := by rw [saOk, hv]; rfl
      exact ⟨e, by rw [saZ, e]; rfl⟩)
    go_enter Try.func10, Try.ntmps10
    go_wp2_with (go_at_call 15; refine (swingValid_any _ _ _ _ _).mono ?_; rintro e w' ⟨rfl, hb⟩; obtain ⟨os, d, rfl⟩ := more_of_below hb; clear hb)
    go_returns
    exact ⟨by rw [HO.out.1, HO.out.2]; rfl, by repeat' (first | (with_reducible exact Below.refl _ _) | (with_reducible assumption) | (with_reducible refine Below.alloc ?_ ?_ _) | (with_reducible refine below_more ?_ ?_ _ _) | (with_reducible refine below_rd ?_ ?_ _ _) | (with_reducible refine Below.drew ?_) | (with_reducible refine Below.setCell ?_ ?_ _) | go_size)⟩
end Go.Proofs.Ytmoajpkgdimdaaa
