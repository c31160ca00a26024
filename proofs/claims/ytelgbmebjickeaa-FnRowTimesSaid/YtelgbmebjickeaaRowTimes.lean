/- laws.FnRowTimes returns true, whatever the code. Condition: none. -/
import Derived.Test.YtelgbmebjickeaaDrawT
import Derived.Test.YtelgbmebjickeaaRowLawM
import Derived.Test.YtelgbmebjickeaaLawA
namespace Go.Proofs.Ytelgbmebjickeaa
open Go.ChangeShapes Go.WideShapes Go.ChangeAt Go.RowKit Go.Joins

theorem tmOk_comm (a b : C8) : tmOk a b = tmOk b a := by
  rw [tmOk, tmOk, C8.mul_comm a b, Bool.and_comm (okC a)]
theorem prG_comm (xs ys : List C8) : ∀ k, prG xs ys k = prG ys xs k
  | 0 => rfl
  | k + 1 => by show (prG xs ys k && tmOk _ _) = (prG ys xs k && tmOk _ _); rw [prG_comm xs ys k, tmOk_comm]
theorem prP_comm (xs ys : List C8) (k : Nat) : prP xs ys k = prP ys xs k := by
  unfold prP
  apply List.map_congr_left
  intro i _
  rw [C8.mul_comm]
theorem rt_facts {xs ys : List C8} (h : rtOk xs ys = true) : rtOk ys xs = true ∧ rtR ys xs = rtR xs ys ∧ (rtR xs ys).length = xs.length := by
  have h' := h
  simp only [rtOk, twOk, Bool.and_eq_true, decide_eq_true_eq] at h'
  obtain ⟨⟨⟨h1, h2⟩, h3⟩, h4⟩ := h'
  have e : rtOk ys xs = true := by
    simp only [rtOk, twOk, Bool.and_eq_true, decide_eq_true_eq]
    exact ⟨⟨⟨h2, h1⟩, h3.symm⟩, by rw [prG_comm, ← h3]; exact h4⟩
  refine ⟨e, ?_, ?_⟩
  · rw [rtR, if_pos e, rtR, if_pos h, prP_comm, h3]
  · rw [rtR, if_pos h, prP_len]

set_option maxRecDepth 100000 in
set_option maxHeartbeats 8000000 in
theorem fnRowTimes_any (a : Option Addr) (len cap : Nat) (W : World) (hv : HasB W W.heap.size a len) (hc : len ≤ cap) :
    Calls Try.prog 6 #[.slice a len cap] W fun e w' => e = .returned (.bool true) ∧ Below W.heap.size W w' := by
  by_cases hl : len ≤ 1048576
  · go_enter Try.func6, Try.ntmps6
    go_wp2_with fail
    refine (drawRowTimes_any a len cap W.heap.size W W hv (Below.refl _ _) (Nat.le_refl _) hl hc).mono ?_
    rintro e w1 ⟨va, vb, xs, ys, rfl, hx, hy, ap_va_vb, o_va, o_vb, hW1⟩
    go_wp2_with fail
    refine (rowTimes_own o_va o_vb (by omega) (by omega)).mono ?_
    rintro e w2 ⟨g0, rfl, o_g0, hb2⟩
    have ap_va_g0 := o_va.apart o_g0 (Nat.le_refl _)
    have ap_vb_g0 := o_vb.apart o_g0 (Nat.le_refl _)
    replace o_va := o_va.keep hb2
    replace o_vb := o_vb.keep hb2
    have hW2 := below_next hW1 hb2 (Nat.le_refl _)
    clear hb2
    go_wp2_with fail
    refine (specRowTimes_own o_va o_vb (by omega) (by omega)).mono ?_
    rintro e w3 ⟨r0, rfl, o_r0, hb3⟩
    have ap_va_r0 := o_va.apart o_r0 (Nat.le_refl _)
    have ap_vb_r0 := o_vb.apart o_r0 (Nat.le_refl _)
    have ap_g0_r0 := o_g0.apart o_r0 (Nat.le_refl _)
    replace o_va := o_va.keep hb3
    replace o_vb := o_vb.keep hb3
    replace o_g0 := o_g0.keep hb3
    have hW3 := below_next hW2 hb3 (Nat.le_refl _)
    clear hb3
    have hr : (rtR xs ys).length ≤ 1048576 := Nat.le_trans (rtR_len xs ys) (by omega)
    rcases Bool.eq_false_or_eq_true (rtOk xs ys) with hok | hok
    · obtain ⟨f1, f2, f3⟩ := rt_facts hok
      have F2 := Lib.hid f2
      have F3 := Lib.hid f3
      clear f2 f3
      go_wp2_with fail
      refine (sameCycs_own o_g0 o_r0 hr).mono ?_
      rintro e w4 ⟨rfl, hb4⟩
      replace o_va := o_va.keep hb4
      replace o_vb := o_vb.keep hb4
      replace o_g0 := o_g0.keep hb4
      replace o_r0 := o_r0.keep hb4
      have hW4 := below_next hW3 hb4 (Nat.le_refl _)
      clear hb4
      clear o_r0
      go_wp2_with fail
      refine (rowTimes_own o_vb o_va (by omega) (by omega)).mono ?_
      rintro e w5 ⟨x0, rfl, o_x0, hb5⟩
      have ap_va_x0 := o_va.apart o_x0 (Nat.le_refl _)
      have ap_vb_x0 := o_vb.apart o_x0 (Nat.le_refl _)
      have ap_g0_x0 := o_g0.apart o_x0 (Nat.le_refl _)
      replace o_va := o_va.keep hb5
      replace o_vb := o_vb.keep hb5
      replace o_g0 := o_g0.keep hb5
      have hW5 := below_next hW4 hb5 (Nat.le_refl _)
      clear hb5
      rw [F2.out] at o_x0
      obtain ⟨ga, gc, rfl, -⟩ := o_g0.hasP
      obtain ⟨aa, ac, rfl, -⟩ := o_va.hasP
      have hq : ((rtR xs ys).length : Int) = (xs.length : Int) := by rw [F3.out]
      go_wp2_with fail
      refine (sameCycs_own o_x0 o_g0 hr).mono ?_
      rintro e w6 ⟨rfl, hb6⟩
      replace o_va := o_va.keep hb6
      replace o_vb := o_vb.keep hb6
      replace o_g0 := o_g0.keep hb6
      replace o_x0 := o_x0.keep hb6
      have hW6 := below_next hW5 hb6 (Nat.le_refl _)
      clear hb6
      go_wp2
      go_ret
      exact ⟨rfl, hW6⟩
    · go_wp2_with fail
      refine (sameCycs_own o_g0 o_r0 hr).mono ?_
      rintro e w4 ⟨rfl, hb4⟩
      replace o_va := o_va.keep hb4
      replace o_vb := o_vb.keep hb4
      replace o_g0 := o_g0.keep hb4
      replace o_r0 := o_r0.keep hb4
      have hW4 := below_next hW3 hb4 (Nat.le_refl _)
      clear hb4
      go_wp2_with fail
      refine (sameCycs_own o_g0 o_r0 hr).mono ?_
      rintro e w5 ⟨rfl, hb5⟩
      replace o_va := o_va.keep hb5
      replace o_vb := o_vb.keep hb5
      replace o_g0 := o_g0.keep hb5
      replace o_r0 := o_r0.keep hb5
      have hW5 := below_next hW4 hb5 (Nat.le_refl _)
      clear hb5
      go_wp2
      go_ret
      exact ⟨rfl, hW5⟩
  · go_enter Try.func6, Try.ntmps6
    go_wp2
    go_ret
    exact ⟨rfl, by repeat' (first | (with_reducible exact Below.refl _ _) | (with_reducible assumption) | (with_reducible refine Below.alloc ?_ ?_ _) | (with_reducible refine below_more ?_ ?_ _ _) | (with_reducible refine below_rd ?_ ?_ _ _) | (with_reducible refine Below.drew ?_) | (with_reducible refine Below.setCell ?_ ?_ _) | go_size)⟩

set_option maxRecDepth 100000 in
theorem fnRowTimes_lifted (os : Os) (started : os.Started) (H : Type) (enc : TypeId × Value → H) :
    ReturnsInHanded {} Try.checked os 6 .any (Rows.fnRowTimesSpec.pre6 enc Try.prog Try.f6 Rows.fnRowTimesRow.domain false) (Rows.fnRowTimesSpec.post enc Try.prog Try.f6 false true false false) := by
  refine returnsInHanded_of_change (C := Try.checked) own started (by kernel_rfl) Try.func6
    (ChangeSpec.witness6 (enc := enc) (C := Try.checked) false ⟨#[], #[.slice none 0 0], []⟩ 8 (by kernel_rfl) (by kernel_rfl) (by kernel_rfl) (by kernel_rfl)) ?_
  intro W base args ds gs before hval0 hW hcnd _
  have hval : ∀ (j : Nat) t v, Try.f6.params[j]? = some t → args[j]? = some v → Value.okWide Try.prog W .any base t v := hval0
  have hW' := hW
  obtain ⟨p, q, hA0, hV, rfl, hfz, hnd⟩ := hW
  have hA : DataW.TrodAll enc Try.prog W 0 (fun _ => true) true Try.f6.params.toList args.toList ds p := hA0
  rw [Try.params6] at hA hval
  obtain ⟨v0, vs0, d0, ds0, p0, q0, hargs, rfl, rfl, h0, r0⟩ := trodAll_cons hA
  obtain ⟨rfl, rfl, rfl⟩ := trodAll_nil r0
  obtain rfl : args = #[v0] := by cases args; simp_all
  obtain ⟨rfl, rfl⟩ := trodVars_none hV
  obtain ⟨a0, len0, cap0, rfl⟩ := okWide_slice Try.underlying33 (hval 0 33 v0 rfl rfl)
  have k0 := h0
  have lt0 : ∀ x ∈ p0, x.block < W.heap.size := by obtain ⟨m, hm⟩ := k0; exact DataW.trod_lt m _ _ _ hm
  obtain ⟨hv, hc⟩ : HasB W W.heap.size a0 len0 ∧ len0 ≤ cap0 := by
    obtain ⟨fuel, hf⟩ := h0
    rcases open_ints Try.underlying33 Try.underlying5 (by kernel_rfl) hf with ⟨hcs, _⟩ | ⟨x, l, c, zs, hcs, _, hl, hm, hz, _, hcell, hwz⟩
    · simp [Value.cells] at hcs
      obtain ⟨rfl, rfl, rfl⟩ := hcs
      exact ⟨Or.inl rfl, Nat.le_refl _⟩
    · simp [Value.cells] at hcs
      obtain ⟨rfl, rfl, rfl⟩ := hcs
      exact ⟨hasB_of_cells (by have : zs.length = cap0 := by simpa using hz
                               omega) hcell hwz, hl⟩
  clear hA0 hval0
  refine (fnRowTimes_any a0 len0 cap0 W hv hc).mono fun e W' ⟨he, bel⟩ => ?_
  subst he
  exact ⟨_, rfl, _, _, _, [], _, [], hW', trodAll_mk1 (shut_bool Try.underlying4 _), (trodAll_cons_mk (Below.trod laidOut (by kernel_rfl) (of_decide_eq_true (by kernel_rfl)) k0 bel lt0) trodAll_mk0), rfl, bel.frame _, fun h => by cases h⟩

theorem fnRowTimes_holds : Rows.FnRowTimesSaid :=
  OpenClaim.holds_of_wide 6 Try.f6 rfl rfl rfl rfl rfl rfl rfl ⟨rfl, rfl, rfl, rfl, rfl⟩ rfl rfl rfl rfl rfl (by kernel_rfl) Try.func6 (by kernel_rfl)
    (of_decide_eq_true (by kernel_rfl)) (by unfold Func.isWrapper; first | (rw [if_pos (by decide +kernel)]; kernel_rfl) | (rw [if_neg (by decide +kernel)]; exact ⟨rfl, rfl⟩))
    (fun os started H enc _ => fnRowTimes_lifted os started H enc)
#print axioms fnRowTimes_holds

end Go.Proofs.Ytelgbmebjickeaa
