/- Draws of texts of designs; the draws of the laws on texts. -/
import Derived.Test.YthojdoiffkdikaaGreatDoorDrwD
import Derived.Test.YthojdoiffkdikaaGreatDoorReadP
namespace Go.Proofs.YthojdoiffkdikaaGreatDoor
open Go.RowKit Go.Shelf Go.PlotT

theorem dt_le {t : List W9} (hn : t.length ≤ 12) (hok : ∀ x ∈ t, (-1000 ≤ x.s ∧ x.s ≤ 1000) ∧ okC x.r = true) : (dt t).length ≤ 1400 := by
  unfold dt
  split
  · simp
  · refine Nat.le_trans (join_le 32 108 (t.map wt) fun y hy => ?_) ?_
    · obtain ⟨x, hx, rfl⟩ := List.mem_map.1 hy
      exact wt_len (hok x hx).1 (hok x hx).2
    · rw [List.length_map]; omega
theorem dt_pos (t : List W9) : 1 ≤ (dt t).length := by
  unfold dt
  split
  · simp
  · rename_i h
    cases t with
    | nil => exact absurd rfl h
    | cons x l =>
      have hw : 1 ≤ (wt x).length := by unfold wt; simp; omega
      simp only [List.map_cons, Lib.join]
      cases l <;> simp <;> omega
theorem dt_tidy {ds t : List W9} (h : tidyR ds = some t) : 1 ≤ (dt t).length ∧ (dt t).length ≤ 1400 :=
  ⟨dt_pos t, dt_le (dvOk_mem (tidyR_ok h)).1 (dvOk_mem (tidyR_ok h)).2⟩
/-- What the draw of a text leaves. -/
def Txt6 (W : World) (g : Nat) (v : Value) (p : Int) (e : Ending) (w' : World) : Prop :=
  ∃ (S : ByteArray) (p' : Int), e = .returned (.string S) ∧ S.size ≤ 3000 ∧ p ≤ p' ∧ p' ≤ p + 700 ∧ Rd6 W w' g v p'
def fiveT : List Wd := [[48], [45], [44], [32], [120]]
set_option maxRecDepth 100000 in
set_option maxHeartbeats 8000000 in
theorem l92Text6 {w0 W : World} {B g : Nat} {a : Option Addr} {len cap : Nat} {p : Int} (h : Drw w0 W B g a len cap p) (hp : p ≤ 70000) :
    Calls Tryz.prog 44 #[.pointer (some ⟨g, 0, none⟩)] W (Txt6 W g (.slice a len cap) p) := by
  have HD := Lib.hid h
  have hp0 := h.hp
  have hgW := h.lt
  clear h
  go_enter Tryz.func44, Tryz.ntmps44
  go_wp2_with fail
  refine (l92Design6 HD.out (by omega)).mono ?_
  rintro e w1 ⟨ds, gx, cp, p1, rfl, h12, ho, hp1, hp2, hr⟩
  have HR1 := Lib.hid hr
  have HW1 := Lib.hid ho.has
  clear hr ho
  cases ht : tidyR ds with
  | none =>
    have HT := Lib.hid (show textR ds = none by unfold textR; rw [ht]; rfl)
    clear ht
    go_wp2_with fail
    refine (specDesignText_any _ _ ds _ HW1.out (by omega)).mono ?_
    rw [HT.out]
    rintro e w2 ⟨rfl, hb2⟩
    have HR2 := Lib.hid (HR1.out.grow hb2)
    clear hb2
    dsimp only [Option.isSome_none]
    go_wp2_with fail
    go_returns
    exact ⟨⟨#[45]⟩, p1, rfl, by decide, by omega, by omega, HR2.out⟩
  | some t =>
    have HT := Lib.hid (show textR ds = some (dt t) by unfold textR; rw [ht]; rfl)
    obtain ⟨hs1, hs2⟩ := dt_tidy ht
    clear ht
    go_wp2_with fail
    refine (specDesignText_any _ _ ds _ HW1.out (by omega)).mono ?_
    rw [HT.out]
    rintro e w2 ⟨rfl, hb2⟩
    have HR2 := Lib.hid (HR1.out.grow hb2)
    clear hb2
    dsimp only [Option.isSome_some, Option.getD_some]
    obtain ⟨S, hS⟩ : ∃ S : ByteArray, (⟨(dt t).toArray⟩ : ByteArray) = S := ⟨_, rfl⟩
    have hz1 : 1 ≤ S.size := by rw [← hS]; exact hs1
    have hz2 : S.size ≤ 1400 := by rw [← hS]; exact hs2
    rw [hS]
    clear hS hs1 hs2
    go_wp2_with fail
    refine (pick6 (HD.out.next HR2.out (by omega)) (min 250 (S.size : Int)) (by omega) (by omega) (by omega)).mono ?_
    rintro e w3 ⟨k3, rfl, hk30, hk31, hr3⟩
    obtain ⟨q, rfl⟩ := Int.eq_ofNat_of_zero_le hk30
    have hq : q + 1 ≤ S.size := by omega
    have HR3 := Lib.hid (HR2.out.trans hr3)
    clear hr3 hk31 hk30
    go_wp2_with fail
    refine (pick6 (HD.out.next HR3.out (by omega)) 8 (by omega) (by omega) (by omega)).mono ?_
    rintro e w4 ⟨k4, rfl, hk40, hk41, hr4⟩
    have HR4 := Lib.hid (HR3.out.trans hr4)
    clear hr4
    by_cases h0 : k4 = 0
    · subst h0
      have i0 : (0 : Int) ≤ (q : Int) := by omega
      have i1 : (q : Int) ≤ (S.size : Int) := by omega
      have i2 : (q : Int) + 1 ≤ (S.size : Int) := by omega
      obtain ⟨m, hm⟩ : ∃ m : Nat, (q : Int) + 1 = (m : Int) := ⟨q + 1, by omega⟩
      have hmw : IntKind.i64.wrap ((q : Int) + 1) = (m : Int) := by rw [hm]; exact IntWalk.i64_in _ (by omega)
      have i3 : (0 : Int) ≤ (m : Int) := by omega
      have i4 : (m : Int) ≤ (S.size : Int) := by omega
      clear i2 hm
      obtain ⟨E0, hE0⟩ : ∃ E0, S.extract 0 q = E0 := ⟨_, rfl⟩
      have e1 : E0.size ≤ 1400 := by rw [← hE0, ByteArray.size_extract]; omega
      obtain ⟨E1, hE1⟩ : ∃ E1, S.extract m S.size = E1 := ⟨_, rfl⟩
      have e2 : E1.size ≤ 1400 := by rw [← hE1, ByteArray.size_extract]; omega
      go_wp2_with fail
      go_region_held3 (fun _ => True) (trivial)
        (first | (go_at_call 46; go_must (refine (of6 (HD.out.next (HR4.out.grow (show Below w4.heap.size w4 _ by repeat' (first | (with_reducible exact Below.refl _ _) | (with_reducible assumption) | (with_reducible refine Below.alloc ?_ ?_ _) | (with_reducible refine below_more ?_ ?_ _ _) | (with_reducible refine below_rd ?_ ?_ _ _) | (with_reducible refine Below.drew ?_) | (with_reducible refine Below.setCell ?_ ?_ _) | go_size))) (by omega)) _ 1 fiveT (show Lies (World.drew (World.alloc w4 _)) w4.heap.size fiveT from (lies_lit w4 _ fiveT rfl : Lies (World.alloc w4 _) w4.heap.size fiveT)) (by have := HR4.out.lt; omega) (by decide) (by decide) (by omega) (by decide)).mono ?_; rintro e w5 ⟨X, rfl, hX, hr5⟩; have HR5 := Lib.hid ((HR4.out.grow (show Below w4.heap.size w4 _ by repeat' (first | (with_reducible exact Below.refl _ _) | (with_reducible assumption) | (with_reducible refine Below.alloc ?_ ?_ _) | (with_reducible refine below_more ?_ ?_ _ _) | (with_reducible refine below_rd ?_ ?_ _ _) | (with_reducible refine Below.drew ?_) | (with_reducible refine Below.setCell ?_ ?_ _) | go_size))).trans hr5); have hs6 := (fun (wx : World) => run_string_add_sum (P := Tryz.prog) (w := wx) E0 X (by omega)); have hs8 := (fun (wx : World) => run_string_add_sum (P := Tryz.prog) (w := wx) (E0 ++ X) E1 (by rw [ByteArray.size_append]; omega)); clear hr5)))
      go_wp2_with fail
      go_returns
      exact ⟨_, _, rfl, (by simp only [ByteArray.size_append]; omega), by omega, by omega, HR5.out⟩
    · by_cases h1 : k4 = 1
      · subst h1
        go_wp2_with fail
        go_returns
        exact ⟨_, _, rfl, (by simp only [ByteArray.size_append]; show S.size + 1 + S.size ≤ 3000; omega), by omega, by omega, HR4.out⟩
      · go_wp2_with fail
        go_returns
        exact ⟨S, _, rfl, by omega, by omega, by omega, HR4.out⟩
set_option maxRecDepth 100000 in
set_option maxHeartbeats 1000000 in
theorem drawDesignText_some (a : Option Addr) (len cap : Nat) (w : World) (hl : len ≤ 1048576) (hc : len ≤ cap) (hv : HasB w w.heap.size a len) :
    Calls Tryz.prog 16 #[.slice a len cap] w fun e w' => ∃ (xs : List W9) (gx cp : Nat), e = .returned (.slice (some ⟨gx, 0, none⟩) xs.length cp) ∧ xs.length ≤ 12 ∧ OwnsW w' w.heap.size (.slice (some ⟨gx, 0, none⟩) xs.length cp) xs ∧ Below w.heap.size w w' := by
  have HV := Lib.hid hv
  clear hv
  go_enter Tryz.func16, Tryz.ntmps16
  go_wp2_with fail
  refine (open_any _ _ _ _ hl hc).mono ?_
  rintro e w1 ⟨len', hl1, hl2, rfl, hw⟩
  have hb1 : Below w.heap.size w w1 := (by rw [hw]; exact (Below.refl _ _).alloc (Nat.le_refl _) _)
  have hd : Drw w w1 w.heap.size w.heap.size a len' cap 0 := ⟨(by rw [hw]; exact heap_alloc_new _ _), HV.out.less hl1, hb1, Nat.le_refl _, hl2, Int.le_refl _⟩
  have HD := Lib.hid hd
  have HB1 := Lib.hid hb1
  clear hd hb1 hw
  go_wp2_with fail
  refine (l92Design6 HD.out (by omega)).mono ?_
  rintro e w2 ⟨xs, gx, cp, p', rfl, h12, ho, -, -, hr⟩
  have HO := Lib.hid ho
  have HR := Lib.hid hr
  clear ho hr
  go_wp2_with fail
  go_returns
  exact ⟨xs, gx, cp, rfl, h12, HO.out.mono HB1.out.size, HB1.out.trans (HR.out.toBelow (Nat.le_refl _) HD.out.lt)⟩
set_option maxRecDepth 100000 in
set_option maxHeartbeats 1000000 in
theorem drawDesignRead_some (a : Option Addr) (len cap : Nat) (w : World) (hl : len ≤ 1048576) (hc : len ≤ cap) (hv : HasB w w.heap.size a len) :
    Calls Tryz.prog 21 #[.slice a len cap] w fun e w' => ∃ S : ByteArray, e = .returned (.string S) ∧ S.size ≤ 3000 ∧ Below w.heap.size w w' := by
  have HV := Lib.hid hv
  clear hv
  go_enter Tryz.func21, Tryz.ntmps21
  go_wp2_with fail
  refine (open_any _ _ _ _ hl hc).mono ?_
  rintro e w1 ⟨len', hl1, hl2, rfl, hw⟩
  have hb1 : Below w.heap.size w w1 := (by rw [hw]; exact (Below.refl _ _).alloc (Nat.le_refl _) _)
  have hd : Drw w w1 w.heap.size w.heap.size a len' cap 0 := ⟨(by rw [hw]; exact heap_alloc_new _ _), HV.out.less hl1, hb1, Nat.le_refl _, hl2, Int.le_refl _⟩
  have HD := Lib.hid hd
  have HB1 := Lib.hid hb1
  clear hd hb1 hw
  go_wp2_with fail
  refine (l92Text6 HD.out (by omega)).mono ?_
  rintro e w2 ⟨S, p', rfl, hS, -, -, hr⟩
  have HR := Lib.hid hr
  clear hr
  go_wp2_with fail
  go_returns
  exact ⟨S, rfl, hS, HB1.out.trans (HR.out.toBelow (Nat.le_refl _) HD.out.lt)⟩
end Go.Proofs.YthojdoiffkdikaaGreatDoor
