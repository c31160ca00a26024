/- laws.FnSwingAt returns true, whatever the code. Condition: none. -/
import Derived.Test.YthhdmokocddeiaaDrawSN
import Derived.Test.YthhdmokocddeiaaSwingD
import Derived.Test.YthhdmokocddeiaaLawA
import Derived.Deep.RegionHeld3
import Derived.Test.YthhdmokocddeiaaDeep
namespace Go.Proofs.Ythhdmokocddeiaa
open Go.ChangeShapes Go.WideShapes Go.ChangeAt Go.RowKit Go.Joins

theorem swingAt_facts {x y : Nat} {t s k : Int} (hx : x < 4294967296) (hy : y < 4294967296) (h : saOk (x, y) t s k = true) :
    saOk ((saZ (x, y) t s k).1, (saZ (x, y) t s k).2) t s 1 = true ∧ (saZ (x, y) t s k).1 < 4294967296 ∧ (saZ (x, y) t s k).2 < 4294967296 ∧ (saOk (x, y) t s (k + 1) = true → saZ ((saZ (x, y) t s k).1, (saZ (x, y) t s k).2) t s 1 = saZ (x, y) t s (k + 1)) := by
  have hf := saZ_fin (z := (x, y)) (t := t) (s := s) (k := k) hx hy
  have h' := h
  simp only [saOk, Bool.and_eq_true] at h'
  obtain ⟨hz, t', s', rfl, rfl, ht, hs⟩ := swOk_get (z := (x, y)) hx hy h'.1
  have hk := inB_iff.1 h'.2
  obtain ⟨k', rfl⟩ := Int.eq_ofNat_of_zero_le hk.1
  have h1 : saOk ((saZ (x, y) t' s' k').1, (saZ (x, y) t' s' k').2) (t' : Int) (s' : Int) 1 = true := by
    simp only [saOk, swOk, Bool.and_eq_true] at h ⊢
    exact ⟨⟨⟨⟨(finB_iff hf.1.1).2 hf.1, (finB_iff hf.2.1).2 hf.2⟩, h.1.1.2⟩, h.1.2⟩, by decide⟩
  refine ⟨h1, hf.1.1, hf.2.1, fun h2 => ?_⟩
  rw [show saZ ((saZ (x, y) t' s' k').1, (saZ (x, y) t' s' k').2) (t' : Int) (s' : Int) 1 = nmZ t' s' (saZ (x, y) t' s' k') 1 by rw [saZ, if_pos h1]; rfl]
  rw [show saZ (x, y) (t' : Int) (s' : Int) (k' : Int) = nmZ t' s' (x, y) k' by rw [saZ, if_pos h]; rfl]
  rw [show saZ (x, y) (t' : Int) (s' : Int) ((k' : Int) + 1) = nmZ t' s' (x, y) (k' + 1) by rw [saZ, if_pos h2]; rfl]
  rfl
set_option maxRecDepth 100000 in
set_option maxHeartbeats 4000000 in
theorem fnSwingAt_any (a : Option Addr) (len cap : Nat) (W : World) (hv : HasB W W.heap.size a len) (hc : len ≤ cap) :
    Calls Try.prog 5 #[.slice a len cap] W fun e w' => e = .returned (.bool true) ∧ Below W.heap.size W w' := by
  by_cases hl : len ≤ 1048576
  · go_enter Try.func5, Try.ntmps5
    go_wp2_with (go_at_call 19; refine (drawSwingAt_any _ _ _ W.heap.size _ W hv (by repeat' (first | (with_reducible assumption) | (with_reducible exact Below.refl _ _) | (with_reducible refine Below.alloc ?_ ?_ _) | (with_reducible refine below_more ?_ ?_ _ _) | (with_reducible refine below_rd ?_ ?_ _ _) | (with_reducible refine Below.drew ?_) | (first | omega | (simp; omega) | (simp; done)))) (by (first | omega | (simp; omega) | (simp; done))) hl hc).mono ?_; rintro e w' ⟨⟨x, y, t, s, k, hx, hy, hk1, hk2, rfl⟩, hb⟩; obtain ⟨os, dd, rfl⟩ := more_of_below hb; clear hb)
    have HF := Lib.hid (fun t s k => nn_z (saZ_fin (z := (x, y)) (t := t) (s := s) (k := k) hx hy))
    rcases Bool.eq_false_or_eq_true (saOk (x, y) t s k) with h | h
    · obtain ⟨f1, f2, f3, f4⟩ := swingAt_facts hx hy h
      have HF4 := Lib.hid f4
      clear f4
      rcases Bool.eq_false_or_eq_true (saOk (x, y) t s (k + 1)) with h2 | h2
      · have f4 := HF4.out h2
        go_wp2_with (first
          | (go_at_call 20; refine (specSwingAt_any (x, y) _ _ _ hx hy _).mono ?_; rintro e w' ⟨rfl, hb⟩; obtain ⟨os, d, rfl⟩ := more_of_below hb; clear hb)
          | (go_at_call 17; refine (swingAt2 _ _ _ _ _ (by with_reducible assumption) (by with_reducible assumption) _).mono ?_; rintro e w' ⟨rfl, hb⟩; obtain ⟨os, d, rfl⟩ := more_of_below hb; clear hb)
          | (go_at_call 18; refine (singleAlike_same _ _ (HF.out _ _ _).1 (HF.out _ _ _).2 _).mono ?_; rintro e w' ⟨rfl, rfl⟩))
        go_ret
        exact ⟨rfl, by repeat' (first | (with_reducible exact Below.refl _ _) | (with_reducible assumption) | (with_reducible refine Below.alloc ?_ ?_ _) | (with_reducible refine below_more ?_ ?_ _ _) | (with_reducible refine below_rd ?_ ?_ _ _) | (with_reducible refine Below.drew ?_) | (with_reducible refine Below.setCell ?_ ?_ _) | go_size)⟩
      · go_wp2_with (first
          | (go_at_call 20; refine (specSwingAt_any (x, y) _ _ _ hx hy _).mono ?_; rintro e w' ⟨rfl, hb⟩; obtain ⟨os, d, rfl⟩ := more_of_below hb; clear hb)
          | (go_at_call 17; refine (swingAt2 _ _ _ _ _ (by with_reducible assumption) (by with_reducible assumption) _).mono ?_; rintro e w' ⟨rfl, hb⟩; obtain ⟨os, d, rfl⟩ := more_of_below hb; clear hb)
          | (go_at_call 18; refine (singleAlike_same _ _ (HF.out _ _ _).1 (HF.out _ _ _).2 _).mono ?_; rintro e w' ⟨rfl, rfl⟩))
        go_ret
        exact ⟨rfl, by repeat' (first | (with_reducible exact Below.refl _ _) | (with_reducible assumption) | (with_reducible refine Below.alloc ?_ ?_ _) | (with_reducible refine below_more ?_ ?_ _ _) | (with_reducible refine below_rd ?_ ?_ _ _) | (with_reducible refine Below.drew ?_) | (with_reducible refine Below.setCell ?_ ?_ _) | go_size)⟩
    · go_wp2_with (first
        | (go_at_call 20; refine (specSwingAt_any (x, y) _ _ _ hx hy _).mono ?_; rintro e w' ⟨rfl, hb⟩; obtain ⟨os, d, rfl⟩ := more_of_below hb; clear hb)
        | (go_at_call 17; refine (swingAt2 _ _ _ _ _ (by with_reducible assumption) (by with_reducible assumption) _).mono ?_; rintro e w' ⟨rfl, hb⟩; obtain ⟨os, d, rfl⟩ := more_of_below hb; clear hb)
        | (go_at_call 18; refine (singleAlike_same _ _ (HF.out _ _ _).1 (HF.out _ _ _).2 _).mono ?_; rintro e w' ⟨rfl, rfl⟩))
      go_ret
      exact ⟨rfl, by repeat' (first | (with_reducible exact Below.refl _ _) | (with_reducible assumption) | (with_reducible refine Below.alloc ?_ ?_ _) | (with_reducible refine below_more ?_ ?_ _ _) | (with_reducible refine below_rd ?_ ?_ _ _) | (with_reducible refine Below.drew ?_) | (with_reducible refine Below.setCell ?_ ?_ _) | go_size)⟩
  · go_enter Try.func5, Try.ntmps5
    go_wp2
    go_ret
    exact ⟨rfl, by repeat' (first | (with_reducible exact Below.refl _ _) | (with_reducible assumption) | (with_reducible refine Below.alloc ?_ ?_ _) | (with_reducible refine below_more ?_ ?_ _ _) | (with_reducible refine below_rd ?_ ?_ _ _) | (with_reducible refine Below.drew ?_) | (with_reducible refine Below.setCell ?_ ?_ _) | go_size)⟩

set_option maxRecDepth 100000 in
theorem fnSwingAt_lifted (os : Os) (started : os.Started) (H : Type) (enc : TypeId × Value → H) :
    ReturnsInHanded {} Try.checked os 5 .any (Rows.fnSwingAtSpec.pre6 enc Try.prog Try.f5 Rows.fnSwingAtRow.domain false) (Rows.fnSwingAtSpec.post enc Try.prog Try.f5 false true false false) := by
  refine returnsInHanded_of_change (C := Try.checked) own started (by kernel_rfl) Try.func5
    (ChangeSpec.witness6 (enc := enc) (C := Try.checked) false ⟨#[], #[.slice none 0 0], []⟩ 8 (by kernel_rfl) (by kernel_rfl) (by kernel_rfl) (by kernel_rfl)) ?_
  intro W base args ds gs before hval0 hW hcnd _
  have hval : ∀ (j : Nat) t v, Try.f5.params[j]? = some t → args[j]? = some v → Value.okWide Try.prog W .any base t v := hval0
  have hW' := hW
  obtain ⟨p, q, hA0, hV, rfl, hfz, hnd⟩ := hW
  have hA : DataW.TrodAll enc Try.prog W 0 (fun _ => true) true Try.f5.params.toList args.toList ds p := hA0
  rw [Try.params5] at hA hval
  obtain ⟨v0, vs0, d0, ds0, p0, q0, hargs, rfl, rfl, h0, r0⟩ := trodAll_cons hA
  obtain ⟨rfl, rfl, rfl⟩ := trodAll_nil r0
  obtain rfl : args = #[v0] := by cases args; simp_all
  obtain ⟨rfl, rfl⟩ := trodVars_none hV
  obtain ⟨a0, len0, cap0, rfl⟩ := okWide_slice Try.underlying30 (hval 0 30 v0 rfl rfl)
  have k0 := h0
  have lt0 : ∀ x ∈ p0, x.block < W.heap.size := by obtain ⟨m, hm⟩ := k0; exact DataW.trod_lt m _ _ _ hm
  obtain ⟨hv, hc⟩ : HasB W W.heap.size a0 len0 ∧ len0 ≤ cap0 := by
    obtain ⟨fuel, hf⟩ := h0
    rcases open_ints Try.underlying30 Try.underlying5 (by kernel_rfl) hf with ⟨hcs, _⟩ | ⟨x, l, c, zs, hcs, _, hl, hm, hz, _, hcell, hwz⟩
    · simp [Value.cells] at hcs
      obtain ⟨rfl, rfl, rfl⟩ := hcs
      exact ⟨Or.inl rfl, Nat.le_refl _⟩
    · simp [Value.cells] at hcs
      obtain ⟨rfl, rfl, rfl⟩ := hcs
      exact ⟨hasB_of_cells (by have : zs.length = cap0 := by simpa using hz
                               omega) hcell hwz, hl⟩
  clear hA0 hval0
  refine (fnSwingAt_any a0 len0 cap0 W hv hc).mono fun e W' ⟨he, bel⟩ => ?_
  subst he
  exact ⟨_, rfl, _, _, _, [], _, [], hW', trodAll_mk1 (shut_bool Try.underlying4 _), (trodAll_cons_mk (Below.trod laidOut (by kernel_rfl) (of_decide_eq_true (by kernel_rfl)) k0 bel lt0) trodAll_mk0), rfl, bel.frame _, fun h => by cases h⟩

theorem fnSwingAt_holds : Rows.FnSwingAtSaid :=
  OpenClaim.holds_of_wide 5 Try.f5 rfl rfl rfl rfl rfl rfl rfl ⟨rfl, rfl, rfl, rfl, rfl⟩ rfl rfl rfl rfl rfl (by kernel_rfl) Try.func5 (by kernel_rfl)
    (of_decide_eq_true (by kernel_rfl)) (by unfold Func.isWrapper; first | (rw [if_pos (by decide +kernel)]; kernel_rfl) | (rw [if_neg (by decide +kernel)]; exact ⟨rfl, rfl⟩))
    (fun os started H enc _ => fnSwingAt_lifted os started H enc)
#print axioms fnSwingAt_holds

end Go.Proofs.Ythhdmokocddeiaa
