/- laws.FnCircular returns true, whatever the code. Condition: none. -/
import Derived.Test.YtelgbmebjickeaaDrawT
import Derived.Test.YtelgbmebjickeaaCircP
import Derived.Test.YtelgbmebjickeaaLawA
namespace Go.Proofs.Ytelgbmebjickeaa
open Go.ChangeShapes Go.WideShapes Go.ChangeAt Go.RowKit Go.Joins

set_option maxRecDepth 100000 in
set_option maxHeartbeats 8000000 in
theorem fnCircular_any (a : Option Addr) (len cap : Nat) (W : World) (hv : HasB W W.heap.size a len) (hc : len ≤ cap) :
    Calls Try.prog 11 #[.slice a len cap] W fun e w' => e = .returned (.bool true) ∧ Below W.heap.size W w' := by
  by_cases hl : len ≤ 1048576
  · go_enter Try.func11, Try.ntmps11
    go_wp2_with fail
    refine (drawRowCircular_any a len cap W.heap.size W W hv (Below.refl _ _) (Nat.le_refl _) hl hc).mono ?_
    rintro e w1 ⟨va, vb, xs, ys, rfl, hx, hy, ap_va_vb, o_va, o_vb, hW1⟩
    go_wp2_with fail
    refine (rowCircular_own o_va o_vb (by omega) (by omega)).mono ?_
    rintro e w2 ⟨g0, rfl, o_g0, hb2⟩
    have ap_va_g0 := o_va.apart o_g0 (Nat.le_refl _)
    have ap_vb_g0 := o_vb.apart o_g0 (Nat.le_refl _)
    replace o_va := o_va.keep hb2
    replace o_vb := o_vb.keep hb2
    have hW2 := below_next hW1 hb2 (Nat.le_refl _)
    clear hb2
    go_wp2_with fail
    refine (specRowCircular_own o_va o_vb (by omega) (by omega)).mono ?_
    rintro e w3 ⟨r0, rfl, o_r0, hb3⟩
    have ap_va_r0 := o_va.apart o_r0 (Nat.le_refl _)
    have ap_vb_r0 := o_vb.apart o_r0 (Nat.le_refl _)
    have ap_g0_r0 := o_g0.apart o_r0 (Nat.le_refl _)
    replace o_va := o_va.keep hb3
    replace o_vb := o_vb.keep hb3
    replace o_g0 := o_g0.keep hb3
    have hW3 := below_next hW2 hb3 (Nat.le_refl _)
    clear hb3
    have hr : (rcR xs ys).length ≤ 1048576 := Nat.le_trans (rcR_len xs ys) (by omega)
    rcases Bool.eq_false_or_eq_true (rcOk xs ys) with hok | hok
    · have HC := Lib.hid (fun h => rc_comm hok h)
      have HV := Lib.hid (fun h1 h2 h3 h4 => rc_conv hok h1 h2 h3 h4)
      go_wp2_with fail
      refine (sameCycs_own o_g0 o_r0 hr).mono ?_
      rintro e w4 ⟨rfl, hb4⟩
      replace o_va := o_va.keep hb4
      replace o_vb := o_vb.keep hb4
      replace o_g0 := o_g0.keep hb4
      replace o_r0 := o_r0.keep hb4
      have hW4 := below_next hW3 hb4 (Nat.le_refl _)
      clear hb4
      clear o_r0
      go_wp2_with fail
      refine (rowCircular_own o_vb o_va (by omega) (by omega)).mono ?_
      rintro e w5 ⟨x0, rfl, o_x0, hb5⟩
      have ap_va_x0 := o_va.apart o_x0 (Nat.le_refl _)
      have ap_vb_x0 := o_vb.apart o_x0 (Nat.le_refl _)
      have ap_g0_x0 := o_g0.apart o_x0 (Nat.le_refl _)
      replace o_va := o_va.keep hb5
      replace o_vb := o_vb.keep hb5
      replace o_g0 := o_g0.keep hb5
      have hW5 := below_next hW4 hb5 (Nat.le_refl _)
      clear hb5
      go_wp2_with fail
      refine (transformOf_own o_va (by omega)).mono ?_
      rintro e w6 ⟨u0, rfl, o_u0, hb6⟩
      have ap_va_u0 := o_va.apart o_u0 (Nat.le_refl _)
      have ap_vb_u0 := o_vb.apart o_u0 (Nat.le_refl _)
      have ap_g0_u0 := o_g0.apart o_u0 (Nat.le_refl _)
      have ap_x0_u0 := o_x0.apart o_u0 (Nat.le_refl _)
      replace o_va := o_va.keep hb6
      replace o_vb := o_vb.keep hb6
      replace o_g0 := o_g0.keep hb6
      replace o_x0 := o_x0.keep hb6
      have hW6 := below_next hW5 hb6 (Nat.le_refl _)
      clear hb6
      go_wp2_with fail
      refine (transformOf_own o_vb (by omega)).mono ?_
      rintro e w7 ⟨v0, rfl, o_v0, hb7⟩
      have ap_va_v0 := o_va.apart o_v0 (Nat.le_refl _)
      have ap_vb_v0 := o_vb.apart o_v0 (Nat.le_refl _)
      have ap_g0_v0 := o_g0.apart o_v0 (Nat.le_refl _)
      have ap_x0_v0 := o_x0.apart o_v0 (Nat.le_refl _)
      have ap_u0_v0 := o_u0.apart o_v0 (Nat.le_refl _)
      replace o_va := o_va.keep hb7
      replace o_vb := o_vb.keep hb7
      replace o_g0 := o_g0.keep hb7
      replace o_x0 := o_x0.keep hb7
      replace o_u0 := o_u0.keep hb7
      have hW7 := below_next hW6 hb7 (Nat.le_refl _)
      clear hb7
      clear o_va
      clear o_vb
      go_wp2_with fail
      refine (transformOf_own o_g0 hr).mono ?_
      rintro e w8 ⟨t0, rfl, o_t0, hb8⟩
      have ap_g0_t0 := o_g0.apart o_t0 (Nat.le_refl _)
      have ap_x0_t0 := o_x0.apart o_t0 (Nat.le_refl _)
      have ap_u0_t0 := o_u0.apart o_t0 (Nat.le_refl _)
      have ap_v0_t0 := o_v0.apart o_t0 (Nat.le_refl _)
      replace o_g0 := o_g0.keep hb8
      replace o_x0 := o_x0.keep hb8
      replace o_u0 := o_u0.keep hb8
      replace o_v0 := o_v0.keep hb8
      have hW8 := below_next hW7 hb8 (Nat.le_refl _)
      clear hb8
      have hu : (trR (-1) xs).length ≤ 1048576 := Nat.le_trans (trR_len (-1) xs) (by omega)
      have hv2 : (trR (-1) ys).length ≤ 1048576 := Nat.le_trans (trR_len (-1) ys) (by omega)
      have ht : (trR (-1) (rcR xs ys)).length ≤ 1048576 := Nat.le_trans (trR_len (-1) _) hr
      go_wp2_with fail
      refine (rowTimes_own o_u0 o_v0 hu hv2).mono ?_
      rintro e w9 ⟨z0, rfl, o_z0, hb9⟩
      have ap_g0_z0 := o_g0.apart o_z0 (Nat.le_refl _)
      have ap_x0_z0 := o_x0.apart o_z0 (Nat.le_refl _)
      have ap_u0_z0 := o_u0.apart o_z0 (Nat.le_refl _)
      have ap_v0_z0 := o_v0.apart o_z0 (Nat.le_refl _)
      have ap_t0_z0 := o_t0.apart o_z0 (Nat.le_refl _)
      replace o_g0 := o_g0.keep hb9
      replace o_x0 := o_x0.keep hb9
      replace o_u0 := o_u0.keep hb9
      replace o_v0 := o_v0.keep hb9
      replace o_t0 := o_t0.keep hb9
      have hW9 := below_next hW8 hb9 (Nat.le_refl _)
      clear hb9
      clear o_u0
      clear o_v0
      rcases Bool.eq_false_or_eq_true (rcOk ys xs) with hp | hp
      · rw [HC.out hp] at o_x0
        go_wp2_with fail
        refine (sameCycs_own o_x0 o_g0 hr).mono ?_
        rintro e w10 ⟨rfl, hb10⟩
        replace o_g0 := o_g0.keep hb10
        replace o_x0 := o_x0.keep hb10
        replace o_t0 := o_t0.keep hb10
        replace o_z0 := o_z0.keep hb10
        have hW10 := below_next hW9 hb10 (Nat.le_refl _)
        clear hb10
        rcases Bool.eq_false_or_eq_true (trOk (-1) xs) with c0 | c0
        · rcases Bool.eq_false_or_eq_true (trOk (-1) ys) with c1 | c1
          · rcases Bool.eq_false_or_eq_true (trOk (-1) (rcR xs ys)) with c2 | c2
            · rcases Bool.eq_false_or_eq_true (rtOk (trR (-1) xs) (trR (-1) ys)) with c3 | c3
              · rw [← HV.out c0 c1 c2 c3] at o_z0
                go_wp2_with fail
                refine (sameCycs_own o_t0 o_z0 ht).mono ?_
                rintro e w11 ⟨rfl, hb11⟩
                replace o_g0 := o_g0.keep hb11
                replace o_x0 := o_x0.keep hb11
                replace o_t0 := o_t0.keep hb11
                replace o_z0 := o_z0.keep hb11
                have hW11 := below_next hW10 hb11 (Nat.le_refl _)
                clear hb11
                go_wp2
                go_ret
                exact ⟨rfl, hW11⟩
              · go_wp2
                go_ret
                exact ⟨rfl, hW10⟩
            · go_wp2
              go_ret
              exact ⟨rfl, hW10⟩
          · go_wp2
            go_ret
            exact ⟨rfl, hW10⟩
        · go_wp2
          go_ret
          exact ⟨rfl, hW10⟩
      · rcases Bool.eq_false_or_eq_true (trOk (-1) xs) with c0 | c0
        · rcases Bool.eq_false_or_eq_true (trOk (-1) ys) with c1 | c1
          · rcases Bool.eq_false_or_eq_true (trOk (-1) (rcR xs ys)) with c2 | c2
            · rcases Bool.eq_false_or_eq_true (rtOk (trR (-1) xs) (trR (-1) ys)) with c3 | c3
              · rw [← HV.out c0 c1 c2 c3] at o_z0
                go_wp2_with fail
                refine (sameCycs_own o_t0 o_z0 ht).mono ?_
                rintro e w10 ⟨rfl, hb10⟩
                replace o_g0 := o_g0.keep hb10
                replace o_x0 := o_x0.keep hb10
                replace o_t0 := o_t0.keep hb10
                replace o_z0 := o_z0.keep hb10
                have hW10 := below_next hW9 hb10 (Nat.le_refl _)
                clear hb10
                go_wp2
                go_ret
                exact ⟨rfl, hW10⟩
              · go_wp2
                go_ret
                exact ⟨rfl, hW9⟩
            · go_wp2
              go_ret
              exact ⟨rfl, hW9⟩
          · go_wp2
            go_ret
            exact ⟨rfl, hW9⟩
        · go_wp2
          go_ret
          exact ⟨rfl, hW9⟩
    · go_wp2_with fail
      refine (sameCycs_own o_g0 o_r0 hr).mono ?_
      rintro e w4 ⟨rfl, hb4⟩
      replace o_va := o_va.keep hb4
      replace o_vb := o_vb.keep hb4
      replace o_g0 := o_g0.keep hb4
      replace o_r0 := o_r0.keep hb4
      have hW4 := below_next hW3 hb4 (Nat.le_refl _)
      clear hb4
      go_wp2_with fail
      refine (sameCycs_own o_g0 o_r0 hr).mono ?_
      rintro e w5 ⟨rfl, hb5⟩
      replace o_va := o_va.keep hb5
      replace o_vb := o_vb.keep hb5
      replace o_g0 := o_g0.keep hb5
      replace o_r0 := o_r0.keep hb5
      have hW5 := below_next hW4 hb5 (Nat.le_refl _)
      clear hb5
      go_wp2
      go_ret
      exact ⟨rfl, hW5⟩
  · go_enter Try.func11, Try.ntmps11
    go_wp2
    go_ret
    exact ⟨rfl, by repeat' (first | (with_reducible exact Below.refl _ _) | (with_reducible assumption) | (with_reducible refine Below.alloc ?_ ?_ _) | (with_reducible refine below_more ?_ ?_ _ _) | (with_reducible refine below_rd ?_ ?_ _ _) | (with_reducible refine Below.drew ?_) | (with_reducible refine Below.setCell ?_ ?_ _) | go_size)⟩

set_option maxRecDepth 100000 in
theorem fnCircular_lifted (os : Os) (started : os.Started) (H : Type) (enc : TypeId × Value → H) :
    ReturnsInHanded {} Try.checked os 11 .any (Rows.fnCircularSpec.pre6 enc Try.prog Try.f11 Rows.fnCircularRow.domain false) (Rows.fnCircularSpec.post enc Try.prog Try.f11 false true false false) := by
  refine returnsInHanded_of_change (C := Try.checked) own started (by kernel_rfl) Try.func11
    (ChangeSpec.witness6 (enc := enc) (C := Try.checked) false ⟨#[], #[.slice none 0 0], []⟩ 8 (by kernel_rfl) (by kernel_rfl) (by kernel_rfl) (by kernel_rfl)) ?_
  intro W base args ds gs before hval0 hW hcnd _
  have hval : ∀ (j : Nat) t v, Try.f11.params[j]? = some t → args[j]? = some v → Value.okWide Try.prog W .any base t v := hval0
  have hW' := hW
  obtain ⟨p, q, hA0, hV, rfl, hfz, hnd⟩ := hW
  have hA : DataW.TrodAll enc Try.prog W 0 (fun _ => true) true Try.f11.params.toList args.toList ds p := hA0
  rw [Try.params11] at hA hval
  obtain ⟨v0, vs0, d0, ds0, p0, q0, hargs, rfl, rfl, h0, r0⟩ := trodAll_cons hA
  obtain ⟨rfl, rfl, rfl⟩ := trodAll_nil r0
  obtain rfl : args = #[v0] := by cases args; simp_all
  obtain ⟨rfl, rfl⟩ := trodVars_none hV
  obtain ⟨a0, len0, cap0, rfl⟩ := okWide_slice Try.underlying33 (hval 0 33 v0 rfl rfl)
  have k0 := h0
  have lt0 : ∀ x ∈ p0, x.block < W.heap.size := by obtain ⟨m, hm⟩ := k0; exact DataW.trod_lt m _ _ _ hm
  obtain ⟨hv, hc⟩ : HasB W W.heap.size a0 len0 ∧ len0 ≤ cap0 := by
    obtain ⟨fuel, hf⟩ := h0
    rcases open_ints Try.underlying33 Try.underlying5 (by kernel_rfl) hf with ⟨hcs, _⟩ | ⟨x, l, c, zs, hcs, _, hl, hm, hz, _, hcell, hwz⟩
    · simp [Value.cells] at hcs
      obtain ⟨rfl, rfl, rfl⟩ := hcs
      exact ⟨Or.inl rfl, Nat.le_refl _⟩
    · simp [Value.cells] at hcs
      obtain ⟨rfl, rfl, rfl⟩ := hcs
      exact ⟨hasB_of_cells (by have : zs.length = cap0 := by simpa using hz
                               omega) hcell hwz, hl⟩
  clear hA0 hval0
  refine (fnCircular_any a0 len0 cap0 W hv hc).mono fun e W' ⟨he, bel⟩ => ?_
  subst he
  exact ⟨_, rfl, _, _, _, [], _, [], hW', trodAll_mk1 (shut_bool Try.underlying4 _), (trodAll_cons_mk (Below.trod laidOut (by kernel_rfl) (of_decide_eq_true (by kernel_rfl)) k0 bel lt0) trodAll_mk0), rfl, bel.frame _, fun h => by cases h⟩

theorem fnCircular_holds : Rows.FnCircularSaid :=
  OpenClaim.holds_of_wide 11 Try.f11 rfl rfl rfl rfl rfl rfl rfl ⟨rfl, rfl, rfl, rfl, rfl⟩ rfl rfl rfl rfl rfl (by kernel_rfl) Try.func11 (by kernel_rfl)
    (of_decide_eq_true (by kernel_rfl)) (by unfold Func.isWrapper; first | (rw [if_pos (by decide +kernel)]; kernel_rfl) | (rw [if_neg (by decide +kernel)]; exact ⟨rfl, rfl⟩))
    (fun os started H enc _ => fnCircular_lifted os started H enc)
#print axioms fnCircular_holds

end Go.Proofs.Ytelgbmebjickeaa
