/- laws.FnSmall returns true, whatever the code. Condition: none. -/
import Derived.Test.YthhdmokocddeiaaDrawSN
import Derived.Test.YthhdmokocddeiaaSwingH
import Derived.Test.YthhdmokocddeiaaLawA
import Derived.Deep.RegionHeld3
import Derived.Test.YthhdmokocddeiaaDeep
namespace Go.Proofs.Ythhdmokocddeiaa
open Go.ChangeShapes Go.WideShapes Go.ChangeAt Go.RowKit Go.Joins

theorem tiny_true {x : Nat} (h : tinyB x = true) : (FloatKind.f32.format.order x 0 != some .eq) = true ∧ (FloatKind.f32.format.order x 2155872256 == some .gt) = true ∧ (FloatKind.f32.format.order x 8388608 == some .lt) = true := by
  simp only [tinyB, Bool.and_eq_true] at h
  exact ⟨h.1.1, h.1.2, h.2⟩
theorem tiny_false {x : Nat} (h : tinyB x = false) : (FloatKind.f32.format.order x 0 != some .eq) = false ∨ ((FloatKind.f32.format.order x 0 != some .eq) = true ∧ (FloatKind.f32.format.order x 2155872256 == some .gt) = false) ∨ ((FloatKind.f32.format.order x 0 != some .eq) = true ∧ (FloatKind.f32.format.order x 2155872256 == some .gt) = true ∧ (FloatKind.f32.format.order x 8388608 == some .lt) = false) := by
  rcases Bool.eq_false_or_eq_true (FloatKind.f32.format.order x 0 != some .eq) with h1 | h1
  · rcases Bool.eq_false_or_eq_true (FloatKind.f32.format.order x 2155872256 == some .gt) with h2 | h2
    · exact Or.inr (Or.inr ⟨h1, h2, by simpa [tinyB, neB, gtB, ltB, h1, h2] using h⟩)
    · exact Or.inr (Or.inl ⟨h1, h2⟩)
  · exact Or.inl h1
theorem pTiny_cases {z : Z2} (h : pTiny z = true) : tinyB z.1 = true ∨ (tinyB z.1 = false ∧ tinyB z.2 = true) := by
  rcases Bool.eq_false_or_eq_true (tinyB z.1) with h1 | h1
  · exact Or.inl h1
  · exact Or.inr ⟨h1, by simpa [pTiny, h1] using h⟩
set_option maxRecDepth 100000 in
set_option maxHeartbeats 8000000 in
theorem fnSmall_any (a : Option Addr) (len cap : Nat) (W : World) (hv : HasB W W.heap.size a len) (hc : len ≤ cap) :
    Calls Try.prog 8 #[.slice a len cap] W fun e w' => e = .returned (.bool true) ∧ Below W.heap.size W w' := by
  by_cases hl : len ≤ 1048576
  · go_enter Try.func8, Try.ntmps8
    go_wp2_with (go_at_call 27; refine (drawSwingSmall_any _ _ _ W.heap.size _ W hv (by repeat' (first | (with_reducible assumption) | (with_reducible exact Below.refl _ _) | (with_reducible refine Below.alloc ?_ ?_ _) | (with_reducible refine below_more ?_ ?_ _ _) | (with_reducible refine below_rd ?_ ?_ _ _) | (with_reducible refine Below.drew ?_) | (first | omega | (simp; omega) | (simp; done)))) (by (first | omega | (simp; omega) | (simp; done))) hl hc).mono ?_; rintro e w' ⟨⟨x, y, t, s, hx, hy, rfl⟩, hb⟩; obtain ⟨os, dd, rfl⟩ := more_of_below hb; clear hb)
    rcases Bool.eq_false_or_eq_true (swOk x y t s) with h | h
    · rcases small_facts hx hy h with f1 | ⟨k, hk, f1, f2, f3, f4⟩
      · go_wp2_with (first
          | (go_at_call 28; refine (swingSmall_any (x, y) _ _ hx hy _).mono ?_; rintro e w' ⟨rfl, hb⟩; obtain ⟨os, d, rfl⟩ := more_of_below hb; clear hb)
          | (go_at_call 29; refine (specSwingSmall_any (x, y) _ _ hx hy _).mono ?_; rintro e w' ⟨rfl, hb⟩; obtain ⟨os, d, rfl⟩ := more_of_below hb; clear hb)
          | (go_at_call 25; refine (swingRest_any (x, y) _ _ hx hy _).mono ?_; rintro e w' ⟨rfl, hb⟩; obtain ⟨os, d, rfl⟩ := more_of_below hb; clear hb))
        go_ret
        exact ⟨rfl, by repeat' (first | (with_reducible exact Below.refl _ _) | (with_reducible assumption) | (with_reducible refine Below.alloc ?_ ?_ _) | (with_reducible refine below_more ?_ ?_ _ _) | (with_reducible refine below_rd ?_ ?_ _ _) | (with_reducible refine Below.drew ?_) | (with_reducible refine Below.setCell ?_ ?_ _) | go_size)⟩
      · rcases f4 with f4 | ⟨r, f4, f5, f6⟩
        all_goals
          rcases pTiny_cases f3 with f3 | ⟨f3, g3⟩
          · obtain ⟨a1, a2, a3⟩ := tiny_true f3
            clear f3
            go_wp2_with (first
              | (go_at_call 28; refine (swingSmall_any (x, y) _ _ hx hy _).mono ?_; rintro e w' ⟨rfl, hb⟩; obtain ⟨os, d, rfl⟩ := more_of_below hb; clear hb)
              | (go_at_call 29; refine (specSwingSmall_any (x, y) _ _ hx hy _).mono ?_; rintro e w' ⟨rfl, hb⟩; obtain ⟨os, d, rfl⟩ := more_of_below hb; clear hb)
              | (go_at_call 25; refine (swingRest_any (x, y) _ _ hx hy _).mono ?_; rintro e w' ⟨rfl, hb⟩; obtain ⟨os, d, rfl⟩ := more_of_below hb; clear hb)
              | (go_at_call 17; refine (swingAt2 _ _ _ _ _ hx hy _).mono ?_; rintro e w' ⟨rfl, hb⟩; obtain ⟨os, d, rfl⟩ := more_of_below hb; clear hb))
            go_ret
            exact ⟨rfl, by repeat' (first | (with_reducible exact Below.refl _ _) | (with_reducible assumption) | (with_reducible refine Below.alloc ?_ ?_ _) | (with_reducible refine below_more ?_ ?_ _ _) | (with_reducible refine below_rd ?_ ?_ _ _) | (with_reducible refine Below.drew ?_) | (with_reducible refine Below.setCell ?_ ?_ _) | go_size)⟩
          · obtain ⟨b1, b2, b3⟩ := tiny_true g3
            clear g3
            rcases tiny_false f3 with a1 | ⟨a1, a2⟩ | ⟨a1, a2, a3⟩
            all_goals
              clear f3
              go_wp2_with (first
                | (go_at_call 28; refine (swingSmall_any (x, y) _ _ hx hy _).mono ?_; rintro e w' ⟨rfl, hb⟩; obtain ⟨os, d, rfl⟩ := more_of_below hb; clear hb)
                | (go_at_call 29; refine (specSwingSmall_any (x, y) _ _ hx hy _).mono ?_; rintro e w' ⟨rfl, hb⟩; obtain ⟨os, d, rfl⟩ := more_of_below hb; clear hb)
                | (go_at_call 25; refine (swingRest_any (x, y) _ _ hx hy _).mono ?_; rintro e w' ⟨rfl, hb⟩; obtain ⟨os, d, rfl⟩ := more_of_below hb; clear hb)
                | (go_at_call 17; refine (swingAt2 _ _ _ _ _ hx hy _).mono ?_; rintro e w' ⟨rfl, hb⟩; obtain ⟨os, d, rfl⟩ := more_of_below hb; clear hb))
              go_ret
              exact ⟨rfl, by repeat' (first | (with_reducible exact Below.refl _ _) | (with_reducible assumption) | (with_reducible refine Below.alloc ?_ ?_ _) | (with_reducible refine below_more ?_ ?_ _ _) | (with_reducible refine below_rd ?_ ?_ _ _) | (with_reducible refine Below.drew ?_) | (with_reducible refine Below.setCell ?_ ?_ _) | go_size)⟩
    · have HV := Lib.hid (show frV pTiny (x, y) t s = 0 by rw [frV, h]; rfl)
      go_wp2_with (first
        | (go_at_call 28; refine (swingSmall_any (x, y) _ _ hx hy _).mono ?_; rintro e w' ⟨rfl, hb⟩; obtain ⟨os, d, rfl⟩ := more_of_below hb; clear hb)
        | (go_at_call 29; refine (specSwingSmall_any (x, y) _ _ hx hy _).mono ?_; rintro e w' ⟨rfl, hb⟩; obtain ⟨os, d, rfl⟩ := more_of_below hb; clear hb))
      go_ret
      exact ⟨rfl, by repeat' (first | (with_reducible exact Below.refl _ _) | (with_reducible assumption) | (with_reducible refine Below.alloc ?_ ?_ _) | (with_reducible refine below_more ?_ ?_ _ _) | (with_reducible refine below_rd ?_ ?_ _ _) | (with_reducible refine Below.drew ?_) | (with_reducible refine Below.setCell ?_ ?_ _) | go_size)⟩
  · go_enter Try.func8, Try.ntmps8
    go_wp2
    go_ret
    exact ⟨rfl, by repeat' (first | (with_reducible exact Below.refl _ _) | (with_reducible assumption) | (with_reducible refine Below.alloc ?_ ?_ _) | (with_reducible refine below_more ?_ ?_ _ _) | (with_reducible refine below_rd ?_ ?_ _ _) | (with_reducible refine Below.drew ?_) | (with_reducible refine Below.setCell ?_ ?_ _) | go_size)⟩

set_option maxRecDepth 100000 in
theorem fnSmall_lifted (os : Os) (started : os.Started) (H : Type) (enc : TypeId × Value → H) :
    ReturnsInHanded {} Try.checked os 8 .any (Rows.fnSmallSpec.pre6 enc Try.prog Try.f8 Rows.fnSmallRow.domain false) (Rows.fnSmallSpec.post enc Try.prog Try.f8 false true false false) := by
  refine returnsInHanded_of_change (C := Try.checked) own started (by kernel_rfl) Try.func8
    (ChangeSpec.witness6 (enc := enc) (C := Try.checked) false ⟨#[], #[.slice none 0 0], []⟩ 8 (by kernel_rfl) (by kernel_rfl) (by kernel_rfl) (by kernel_rfl)) ?_
  intro W base args ds gs before hval0 hW hcnd _
  have hval : ∀ (j : Nat) t v, Try.f8.params[j]? = some t → args[j]? = some v → Value.okWide Try.prog W .any base t v := hval0
  have hW' := hW
  obtain ⟨p, q, hA0, hV, rfl, hfz, hnd⟩ := hW
  have hA : DataW.TrodAll enc Try.prog W 0 (fun _ => true) true Try.f8.params.toList args.toList ds p := hA0
  rw [Try.params8] at hA hval
  obtain ⟨v0, vs0, d0, ds0, p0, q0, hargs, rfl, rfl, h0, r0⟩ := trodAll_cons hA
  obtain ⟨rfl, rfl, rfl⟩ := trodAll_nil r0
  obtain rfl : args = #[v0] := by cases args; simp_all
  obtain ⟨rfl, rfl⟩ := trodVars_none hV
  obtain ⟨a0, len0, cap0, rfl⟩ := okWide_slice Try.underlying30 (hval 0 30 v0 rfl rfl)
  have k0 := h0
  have lt0 : ∀ x ∈ p0, x.block < W.heap.size := by obtain ⟨m, hm⟩ := k0; exact DataW.trod_lt m _ _ _ hm
  obtain ⟨hv, hc⟩ : HasB W W.heap.size a0 len0 ∧ len0 ≤ cap0 := by
    obtain ⟨fuel, hf⟩ := h0
    rcases open_ints Try.underlying30 Try.underlying5 (by kernel_rfl) hf with ⟨hcs, _⟩ | ⟨x, l, c, zs, hcs, _, hl, hm, hz, _, hcell, hwz⟩
    · simp [Value.cells] at hcs
      obtain ⟨rfl, rfl, rfl⟩ := hcs
      exact ⟨Or.inl rfl, Nat.le_refl _⟩
    · simp [Value.cells] at hcs
      obtain ⟨rfl, rfl, rfl⟩ := hcs
      exact ⟨hasB_of_cells (by have : zs.length = cap0 := by simpa using hz
                               omega) hcell hwz, hl⟩
  clear hA0 hval0
  refine (fnSmall_any a0 len0 cap0 W hv hc).mono fun e W' ⟨he, bel⟩ => ?_
  subst he
  exact ⟨_, rfl, _, _, _, [], _, [], hW', trodAll_mk1 (shut_bool Try.underlying4 _), (trodAll_cons_mk (Below.trod laidOut (by kernel_rfl) (of_decide_eq_true (by kernel_rfl)) k0 bel lt0) trodAll_mk0), rfl, bel.frame _, fun h => by cases h⟩

theorem fnSmall_holds : Rows.FnSmallSaid :=
  OpenClaim.holds_of_wide 8 Try.f8 rfl rfl rfl rfl rfl rfl rfl ⟨rfl, rfl, rfl, rfl, rfl⟩ rfl rfl rfl rfl rfl (by kernel_rfl) Try.func8 (by kernel_rfl)
    (of_decide_eq_true (by kernel_rfl)) (by unfold Func.isWrapper; first | (rw [if_pos (by decide +kernel)]; kernel_rfl) | (rw [if_neg (by decide +kernel)]; exact ⟨rfl, rfl⟩))
    (fun os started H enc _ => fnSmall_lifted os started H enc)
#print axioms fnSmall_holds

end Go.Proofs.Ythhdmokocddeiaa
