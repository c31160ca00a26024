/- laws.FnSwingPath returns true, whatever the code. Condition: none. -/
import Derived.Test.YthhdmokocddeiaaDrawSN
import Derived.Test.YthhdmokocddeiaaPathC
import Derived.Test.YthhdmokocddeiaaLawA
import Derived.Deep.RegionHeld3
import Derived.Test.YthhdmokocddeiaaDeep
namespace Go.Proofs.Ythhdmokocddeiaa
open Go.ChangeShapes Go.WideShapes Go.ChangeAt Go.RowKit Go.Joins

theorem spOk_facts {x y : Nat} {t s n : Int} (hx : x < 4294967296) (hy : y < 4294967296) (h : spOk (x, y) t s n = true) :
    ∃ k : Nat, n = (k : Int) ∧ 1 ≤ k ∧ k ≤ 100 ∧ (∀ i, NN32 (nmZ t.toNat s.toNat (x, y) i).1 ∧ NN32 (nmZ t.toNat s.toNat (x, y) i).2) ∧
      ∀ i : Nat, i < k → saOk (x, y) t s i = true ∧ saZ (x, y) t s i = nmZ t.toNat s.toNat (x, y) i := by
  simp only [spOk, Bool.and_eq_true] at h
  obtain ⟨⟨hs, hn⟩, -⟩ := h
  have hn' := inB_iff.1 hn
  obtain ⟨hz, t', s', rfl, rfl, ht, hs'⟩ := swOk_get (z := (x, y)) hx hy hs
  obtain ⟨k, rfl⟩ := Int.eq_ofNat_of_zero_le (show 0 ≤ n by omega)
  refine ⟨k, rfl, by omega, by omega, fun i => nn_z (nmZ_fin hz i), fun i hi => ?_⟩
  have e : saOk (x, y) (t' : Int) (s' : Int) (i : Int) = true := by rw [saOk, Bool.and_eq_true]; exact ⟨hs, inB_iff.2 ⟨by omega, by omega⟩⟩
  exact ⟨e, by rw [saZ, if_pos e]; rfl⟩
set_option maxRecDepth 100000 in
set_option maxHeartbeats 4000000 in
theorem fnSwingPath_any (a : Option Addr) (len cap : Nat) (W : World) (hv : HasB W W.heap.size a len) (hc : len ≤ cap) :
    Calls Try.prog 9 #[.slice a len cap] W fun e w' => e = .returned (.bool true) ∧ Below W.heap.size W w' := by
  by_cases hl : len ≤ 1048576
  · go_enter Try.func9, Try.ntmps9
    go_wp2_with (go_at_call 30; refine (drawSwingPath_any _ _ _ W.heap.size _ W hv (by repeat' (first | (with_reducible assumption) | (with_reducible exact Below.refl _ _) | (with_reducible refine Below.alloc ?_ ?_ _) | (with_reducible refine below_more ?_ ?_ _ _) | (with_reducible refine below_rd ?_ ?_ _ _) | (with_reducible refine Below.drew ?_) | (first | omega | (simp; omega) | (simp; done)))) (by (first | omega | (simp; omega) | (simp; done))) hl hc).mono ?_; rintro e w' ⟨⟨x, y, t, s, n, hx, hy, hn1, hn2, rfl⟩, hb⟩; obtain ⟨os, dd, rfl⟩ := more_of_below hb; clear hb)
    rcases Bool.eq_false_or_eq_true (spOk (x, y) t s n) with h | h
    · obtain ⟨k, rfl, k1, k2, f1, f2⟩ := spOk_facts hx hy h
      have F1 := Lib.hid f1
      have F2 := Lib.hid f2
      clear f1 f2
      go_wp2_with fail
      (go_at_call 31; refine (swingPath_any (x, y) t s k hx hy _).mono ?_; rintro e w1 ⟨hb1, ⟨-, g1, c1, hg1, rfl, hr1⟩ | ⟨h0, -⟩⟩)
      · rw [Int.toNat_natCast] at hr1 ⊢
        obtain ⟨os1, d1, rfl⟩ := more_of_below hb1
        have HR1 := Lib.hid hr1
        clear hb1 hr1
        go_wp2_with fail
        (go_at_call 32; refine (specSwingPath_any (x, y) t s k hx hy _).mono ?_; rintro e w2 ⟨hb2, ⟨-, g2, c2, hg2, rfl, hr2⟩ | ⟨h0, -⟩⟩)
        · rw [Int.toNat_natCast] at hr2 ⊢
          obtain ⟨os2, d2, rfl⟩ := more_of_below hb2
          have HR2 := Lib.hid hr2
          clear hb2 hr2
          go_wp2_with fail
          (go_at_call 33; refine (samePoints_any g1 g2 c1 c2 k _ F1.out _ (zrow_later HR1.out hg1 _ _) (zrow_merge HR2.out) (by omega)).mono ?_; rintro e w' ⟨rfl, hb⟩; obtain ⟨os3, d3, rfl⟩ := more_of_below hb; clear hb)
          go_wp2_with fail
          go_loopw [9] (fun s9 wr => ∃ (j : Nat) (os' : Array Obj) (d' : Nat), j ≤ k ∧ s9 = .int .i64 j ∧ wr = more ((more W os dd).alloc (.cells #[.complex .f32 x y, .int .i64 t, .int .i64 s] 33)) (os1 ++ os') d') (fun s9 _ => k - (intOf s9).toNat)
          case atStart => exact ⟨0, os2 ++ os3, d3, by omega, rfl, by simp⟩
          case round =>
            obtain ⟨j, os', d', hj, rfl, rfl⟩ := hrel
            by_cases hlt : j < k
            · obtain ⟨e1, e2⟩ := F2.out j hlt
              have HFJ := Lib.hid (F1.out j)
              have HE := Lib.hid e2
              clear e2
              go_wp2_with fail
              (go_at_call 17; refine (swingAt2 _ _ _ _ _ hx hy _).mono ?_; rintro e w' ⟨rfl, hb⟩; obtain ⟨os4, d4, rfl⟩ := more_of_below hb; clear hb)
              have cj := (zrow_later HR1.out hg1 (os' ++ os4) d4) j hlt
              have HFJ := Lib.hid (F1.out j)
              rw [← HE.out] at cj HFJ
              go_wp2_with (go_at_call 18; refine (singleAlike_same _ _ HFJ.out.1 HFJ.out.2 _).mono ?_; rintro e w' ⟨rfl, rfl⟩)
              go_roundw
              case rel => exact ⟨j + 1, os' ++ os4, d4, by omega, by go_num, rfl⟩
              case measure => simp [intOf]; omega
            · obtain rfl : j = k := by omega
              go_wp2
              go_ret
              exact ⟨rfl, by repeat' (first | (with_reducible exact Below.refl _ _) | (with_reducible assumption) | (with_reducible refine Below.alloc ?_ ?_ _) | (with_reducible refine below_more ?_ ?_ _ _) | (with_reducible refine below_rd ?_ ?_ _ _) | (with_reducible refine Below.drew ?_) | (with_reducible refine Below.setCell ?_ ?_ _) | go_size)⟩
        · rw [h] at h0; cases h0
      · rw [h] at h0; cases h0
    · go_wp2_with fail
      (go_at_call 31; refine (swingPath_any (x, y) t s n hx hy _).mono ?_; rintro e w1 ⟨hb1, ⟨h0, -⟩ | ⟨-, g1, rfl⟩⟩)
      · rw [h] at h0; cases h0
      · obtain ⟨os1, d1, rfl⟩ := more_of_below hb1
        clear hb1
        go_wp2_with fail
        (go_at_call 32; refine (specSwingPath_any (x, y) t s n hx hy _).mono ?_; rintro e w2 ⟨hb2, ⟨h0, -⟩ | ⟨-, g2, rfl⟩⟩)
        · rw [h] at h0; cases h0
        · obtain ⟨os2, d2, rfl⟩ := more_of_below hb2
          clear hb2
          go_wp2_with (go_at_call 33; refine (samePoints_nil _ _ _).mono ?_; rintro e w' ⟨rfl, rfl⟩)
          go_ret
          exact ⟨rfl, by repeat' (first | (with_reducible exact Below.refl _ _) | (with_reducible assumption) | (with_reducible refine Below.alloc ?_ ?_ _) | (with_reducible refine below_more ?_ ?_ _ _) | (with_reducible refine below_rd ?_ ?_ _ _) | (with_reducible refine Below.drew ?_) | (with_reducible refine Below.setCell ?_ ?_ _) | go_size)⟩
  · go_enter Try.func9, Try.ntmps9
    go_wp2
    go_ret
    exact ⟨rfl, by repeat' (first | (with_reducible exact Below.refl _ _) | (with_reducible assumption) | (with_reducible refine Below.alloc ?_ ?_ _) | (with_reducible refine below_more ?_ ?_ _ _) | (with_reducible refine below_rd ?_ ?_ _ _) | (with_reducible refine Below.drew ?_) | (with_reducible refine Below.setCell ?_ ?_ _) | go_size)⟩

set_option maxRecDepth 100000 in
theorem fnSwingPath_lifted (os : Os) (started : os.Started) (H : Type) (enc : TypeId × Value → H) :
    ReturnsInHanded {} Try.checked os 9 .any (Rows.fnSwingPathSpec.pre6 enc Try.prog Try.f9 Rows.fnSwingPathRow.domain false) (Rows.fnSwingPathSpec.post enc Try.prog Try.f9 false true false false) := by
  refine returnsInHanded_of_change (C := Try.checked) own started (by kernel_rfl) Try.func9
    (ChangeSpec.witness6 (enc := enc) (C := Try.checked) false ⟨#[], #[.slice none 0 0], []⟩ 8 (by kernel_rfl) (by kernel_rfl) (by kernel_rfl) (by kernel_rfl)) ?_
  intro W base args ds gs before hval0 hW hcnd _
  have hval : ∀ (j : Nat) t v, Try.f9.params[j]? = some t → args[j]? = some v → Value.okWide Try.prog W .any base t v := hval0
  have hW' := hW
  obtain ⟨p, q, hA0, hV, rfl, hfz, hnd⟩ := hW
  have hA : DataW.TrodAll enc Try.prog W 0 (fun _ => true) true Try.f9.params.toList args.toList ds p := hA0
  rw [Try.params9] at hA hval
  obtain ⟨v0, vs0, d0, ds0, p0, q0, hargs, rfl, rfl, h0, r0⟩ := trodAll_cons hA
  obtain ⟨rfl, rfl, rfl⟩ := trodAll_nil r0
  obtain rfl : args = #[v0] := by cases args; simp_all
  obtain ⟨rfl, rfl⟩ := trodVars_none hV
  obtain ⟨a0, len0, cap0, rfl⟩ := okWide_slice Try.underlying30 (hval 0 30 v0 rfl rfl)
  have k0 := h0
  have lt0 : ∀ x ∈ p0, x.block < W.heap.size := by obtain ⟨m, hm⟩ := k0; exact DataW.trod_lt m _ _ _ hm
  obtain ⟨hv, hc⟩ : HasB W W.heap.size a0 len0 ∧ len0 ≤ cap0 := by
    obtain ⟨fuel, hf⟩ := h0
    rcases open_ints Try.underlying30 Try.underlying5 (by kernel_rfl) hf with ⟨hcs, _⟩ | ⟨x, l, c, zs, hcs, _, hl, hm, hz, _, hcell, hwz⟩
    · simp [Value.cells] at hcs
      obtain ⟨rfl, rfl, rfl⟩ := hcs
      exact ⟨Or.inl rfl, Nat.le_refl _⟩
    · simp [Value.cells] at hcs
      obtain ⟨rfl, rfl, rfl⟩ := hcs
      exact ⟨hasB_of_cells (by have : zs.length = cap0 := by simpa using hz
                               omega) hcell hwz, hl⟩
  clear hA0 hval0
  refine (fnSwingPath_any a0 len0 cap0 W hv hc).mono fun e W' ⟨he, bel⟩ => ?_
  subst he
  exact ⟨_, rfl, _, _, _, [], _, [], hW', trodAll_mk1 (shut_bool Try.underlying4 _), (trodAll_cons_mk (Below.trod laidOut (by kernel_rfl) (of_decide_eq_true (by kernel_rfl)) k0 bel lt0) trodAll_mk0), rfl, bel.frame _, fun h => by cases h⟩

theorem fnSwingPath_holds : Rows.FnSwingPathSaid :=
  OpenClaim.holds_of_wide 9 Try.f9 rfl rfl rfl rfl rfl rfl rfl ⟨rfl, rfl, rfl, rfl, rfl⟩ rfl rfl rfl rfl rfl (by kernel_rfl) Try.func9 (by kernel_rfl)
    (of_decide_eq_true (by kernel_rfl)) (by unfold Func.isWrapper; first | (rw [if_pos (by decide +kernel)]; kernel_rfl) | (rw [if_neg (by decide +kernel)]; exact ⟨rfl, rfl⟩))
    (fun os started H enc _ => fnSwingPath_lifted os started H enc)
#print axioms fnSwingPath_holds

end Go.Proofs.Ythhdmokocddeiaa
