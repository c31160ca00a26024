/- laws.FnParseval returns true, whatever the code. Condition: none. -/
import Derived.Test.YtelgbmebjickeaaDrawT
import Derived.Test.YtelgbmebjickeaaParsP
import Derived.Test.YtelgbmebjickeaaLawA
namespace Go.Proofs.Ytelgbmebjickeaa
open Go.ChangeShapes Go.WideShapes Go.ChangeAt Go.RowKit Go.Joins
attribute [local go_sem ↓] run_eqlS run_neqS

set_option maxRecDepth 100000 in
set_option maxHeartbeats 8000000 in
theorem fnParseval_any (a : Option Addr) (len cap : Nat) (W : World) (hv : HasB W W.heap.size a len) (hc : len ≤ cap) :
    Calls Try.prog 13 #[.slice a len cap] W fun e w' => e = .returned (.bool true) ∧ Below W.heap.size W w' := by
  by_cases hl : len ≤ 1048576
  · go_enter Try.func13, Try.ntmps13
    go_wp2_with fail
    refine (drawTransformOf_any a len cap W.heap.size W W hv (Below.refl _ _) (Nat.le_refl _) hl hc).mono ?_
    rintro e w1 ⟨va, xs, rfl, hx, o_va, hW1⟩
    obtain ⟨aa, ac, rfl, -⟩ := o_va.hasP
    go_wp2_with fail
    refine (transformOf_own o_va (by omega)).mono ?_
    rintro e w2 ⟨g0, rfl, o_g0, hb2⟩
    have ap_va_g0 := o_va.apart o_g0 (Nat.le_refl _)
    replace o_va := o_va.keep hb2
    have hW2 := below_next hW1 hb2 (Nat.le_refl _)
    clear hb2
    go_wp2_with fail
    refine (specTransformOf_own o_va (by omega)).mono ?_
    rintro e w3 ⟨r0, rfl, o_r0, hb3⟩
    have ap_va_r0 := o_va.apart o_r0 (Nat.le_refl _)
    have ap_g0_r0 := o_g0.apart o_r0 (Nat.le_refl _)
    replace o_va := o_va.keep hb3
    replace o_g0 := o_g0.keep hb3
    have hW3 := below_next hW2 hb3 (Nat.le_refl _)
    clear hb3
    have hr : (trR (-1) xs).length ≤ 1048576 := Nat.le_trans (trR_len (-1) xs) (by omega)
    rcases Bool.eq_false_or_eq_true (trOk (-1) xs) with hok | hok
    · go_wp2_with fail
      refine (sameCycs_own o_g0 o_r0 hr).mono ?_
      rintro e w4 ⟨rfl, hb4⟩
      replace o_va := o_va.keep hb4
      replace o_g0 := o_g0.keep hb4
      replace o_r0 := o_r0.keep hb4
      have hW4 := below_next hW3 hb4 (Nat.le_refl _)
      clear hb4
      clear o_r0
      go_wp2_with fail
      refine (rowSquares_own o_g0 hr).mono ?_
      rintro e w5 ⟨rfl, hb5⟩
      replace o_va := o_va.keep hb5
      replace o_g0 := o_g0.keep hb5
      have hW5 := below_next hW4 hb5 (Nat.le_refl _)
      clear hb5
      have HF := Lib.hid (fun h1 h2 => pars_facts hok h1 h2)
      go_wp2_with fail
      refine (rowSquares_own (o_va.alloc _) (by omega)).mono ?_
      rintro e w' ⟨rfl, hb⟩; obtain ⟨os, d, rfl⟩ := more_of_below hb; clear hb
      rcases Bool.eq_false_or_eq_true (rsOk (trR (-1) xs)) with hp | hp
      · rcases Bool.eq_false_or_eq_true (rsOk xs) with hq | hq
        · obtain ⟨f1, f2, f3, f4⟩ := HF.out hp hq
          go_wp2
          go_ret
          exact ⟨rfl, ((below_more (hW5.alloc hW5.size _) (by have := hW5.size; simp; omega) _ _).alloc (by have := hW5.size; simp; omega) _).alloc (by have := hW5.size; simp; omega) _⟩
        · go_wp2
          go_ret
          exact ⟨rfl, ((below_more (hW5.alloc hW5.size _) (by have := hW5.size; simp; omega) _ _).alloc (by have := hW5.size; simp; omega) _).alloc (by have := hW5.size; simp; omega) _⟩
      · go_wp2
        go_ret
        exact ⟨rfl, ((below_more (hW5.alloc hW5.size _) (by have := hW5.size; simp; omega) _ _).alloc (by have := hW5.size; simp; omega) _).alloc (by have := hW5.size; simp; omega) _⟩
    · go_wp2_with fail
      refine (sameCycs_own o_g0 o_r0 hr).mono ?_
      rintro e w4 ⟨rfl, hb4⟩
      replace o_va := o_va.keep hb4
      replace o_g0 := o_g0.keep hb4
      replace o_r0 := o_r0.keep hb4
      have hW4 := below_next hW3 hb4 (Nat.le_refl _)
      clear hb4
      go_wp2_with fail
      refine (sameCycs_own o_g0 o_r0 hr).mono ?_
      rintro e w5 ⟨rfl, hb5⟩
      replace o_va := o_va.keep hb5
      replace o_g0 := o_g0.keep hb5
      replace o_r0 := o_r0.keep hb5
      have hW5 := below_next hW4 hb5 (Nat.le_refl _)
      clear hb5
      go_wp2
      go_ret
      exact ⟨rfl, hW5⟩
  · go_enter Try.func13, Try.ntmps13
    go_wp2
    go_ret
    exact ⟨rfl, by repeat' (first | (with_reducible exact Below.refl _ _) | (with_reducible assumption) | (with_reducible refine Below.alloc ?_ ?_ _) | (with_reducible refine below_more ?_ ?_ _ _) | (with_reducible refine below_rd ?_ ?_ _ _) | (with_reducible refine Below.drew ?_) | (with_reducible refine Below.setCell ?_ ?_ _) | go_size)⟩

set_option maxRecDepth 100000 in
theorem fnParseval_lifted (os : Os) (started : os.Started) (H : Type) (enc : TypeId × Value → H) :
    ReturnsInHanded {} Try.checked os 13 .any (Rows.fnParsevalSpec.pre6 enc Try.prog Try.f13 Rows.fnParsevalRow.domain false) (Rows.fnParsevalSpec.post enc Try.prog Try.f13 false true false false) := by
  refine returnsInHanded_of_change (C := Try.checked) own started (by kernel_rfl) Try.func13
    (ChangeSpec.witness6 (enc := enc) (C := Try.checked) false ⟨#[], #[.slice none 0 0], []⟩ 8 (by kernel_rfl) (by kernel_rfl) (by kernel_rfl) (by kernel_rfl)) ?_
  intro W base args ds gs before hval0 hW hcnd _
  have hval : ∀ (j : Nat) t v, Try.f13.params[j]? = some t → args[j]? = some v → Value.okWide Try.prog W .any base t v := hval0
  have hW' := hW
  obtain ⟨p, q, hA0, hV, rfl, hfz, hnd⟩ := hW
  have hA : DataW.TrodAll enc Try.prog W 0 (fun _ => true) true Try.f13.params.toList args.toList ds p := hA0
  rw [Try.params13] at hA hval
  obtain ⟨v0, vs0, d0, ds0, p0, q0, hargs, rfl, rfl, h0, r0⟩ := trodAll_cons hA
  obtain ⟨rfl, rfl, rfl⟩ := trodAll_nil r0
  obtain rfl : args = #[v0] := by cases args; simp_all
  obtain ⟨rfl, rfl⟩ := trodVars_none hV
  obtain ⟨a0, len0, cap0, rfl⟩ := okWide_slice Try.underlying33 (hval 0 33 v0 rfl rfl)
  have k0 := h0
  have lt0 : ∀ x ∈ p0, x.block < W.heap.size := by obtain ⟨m, hm⟩ := k0; exact DataW.trod_lt m _ _ _ hm
  obtain ⟨hv, hc⟩ : HasB W W.heap.size a0 len0 ∧ len0 ≤ cap0 := by
    obtain ⟨fuel, hf⟩ := h0
    rcases open_ints Try.underlying33 Try.underlying5 (by kernel_rfl) hf with ⟨hcs, _⟩ | ⟨x, l, c, zs, hcs, _, hl, hm, hz, _, hcell, hwz⟩
    · simp [Value.cells] at hcs
      obtain ⟨rfl, rfl, rfl⟩ := hcs
      exact ⟨Or.inl rfl, Nat.le_refl _⟩
    · simp [Value.cells] at hcs
      obtain ⟨rfl, rfl, rfl⟩ := hcs
      exact ⟨hasB_of_cells (by have : zs.length = cap0 := by simpa using hz
                               omega) hcell hwz, hl⟩
  clear hA0 hval0
  refine (fnParseval_any a0 len0 cap0 W hv hc).mono fun e W' ⟨he, bel⟩ => ?_
  subst he
  exact ⟨_, rfl, _, _, _, [], _, [], hW', trodAll_mk1 (shut_bool Try.underlying4 _), (trodAll_cons_mk (Below.trod laidOut (by kernel_rfl) (of_decide_eq_true (by kernel_rfl)) k0 bel lt0) trodAll_mk0), rfl, bel.frame _, fun h => by cases h⟩

theorem fnParseval_holds : Rows.FnParsevalSaid :=
  OpenClaim.holds_of_wide 13 Try.f13 rfl rfl rfl rfl rfl rfl rfl ⟨rfl, rfl, rfl, rfl, rfl⟩ rfl rfl rfl rfl rfl (by kernel_rfl) Try.func13 (by kernel_rfl)
    (of_decide_eq_true (by kernel_rfl)) (by unfold Func.isWrapper; first | (rw [if_pos (by decide +kernel)]; kernel_rfl) | (rw [if_neg (by decide +kernel)]; exact ⟨rfl, rfl⟩))
    (fun os started H enc _ => fnParseval_lifted os started H enc)
#print axioms fnParseval_holds

end Go.Proofs.Ytelgbmebjickeaa
