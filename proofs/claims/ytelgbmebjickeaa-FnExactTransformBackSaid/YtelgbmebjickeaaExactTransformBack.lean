/- laws.FnExactTransformBack returns true, whatever it is called with. Condition: none. -/
import Derived.Test.YtelgbmebjickeaaRowLawT
namespace Go.Proofs.Ytelgbmebjickeaa
open Go.ChangeShapes Go.WideShapes Go.ChangeAt Go.RowKit Go.Joins

set_option maxRecDepth 100000 in
set_option maxHeartbeats 4000000 in
theorem fnExactTransformBack_any (a : Option Addr) (acap : Nat) (xs : List C8) (W : World) (ha : HasC W W.heap.size a xs) (ac : xs.length ≤ acap) (am : xs.length ≤ 9223372036854775807) :
    Calls Try.prog 4 #[.slice a xs.length acap] W fun e w' => e = .returned (.bool true) ∧ Below W.heap.size W w' := by
  by_cases hq : xs.length ≤ 1048576
  · have hn_a : xs.length ≤ 1048576 := by omega
    have Ha := Lib.hid ha
    clear ha
    have hn_r := Lib.hid (show (trR (1) xs).length ≤ 1048576 from Nat.le_trans (trR_len (1) xs) (by omega))
    go_enter Try.func4, Try.ntmps4
    go_wp2_with fail
    refine (szCycS_any _ _ _ _ (by omega) (by omega) am _).mono ?_
    rw [if_neg (by omega)]
    rintro e w' ⟨rfl, rfl⟩
    have hW0 : Below W.heap.size W W := Below.refl _ _
    go_wp2_with fail
    refine (toCycS_own a acap xs _ W Ha.out hW0 hn_a ac).mono ?_
    rintro e w1 ⟨sa, rfl, o_sa, hb1⟩
    have hW1 := below_next hW0 hb1 (Nat.le_refl _)
    clear hb1
    go_wp2_with fail
    refine (specTransformBack_own o_sa hn_a).mono ?_
    rintro e w2 ⟨r0, rfl, o_r0, hb2⟩
    have ap_sa_r0 := o_sa.apart o_r0 (Nat.le_refl _)
    replace o_sa := o_sa.keep hb2
    have hW2 := below_next hW1 hb2 (Nat.le_refl _)
    clear hb2
    clear o_sa
    go_wp2_with fail
    refine (toCycS_own a acap xs _ W Ha.out hW2 hn_a ac).mono ?_
    rintro e w3 ⟨xa, rfl, o_xa, hb3⟩
    have ap_r0_xa := o_r0.apart o_xa (Nat.le_refl _)
    replace o_r0 := o_r0.keep hb3
    have hW3 := below_next hW2 hb3 (Nat.le_refl _)
    clear hb3
    go_wp2_with fail
    refine (transformBack_own o_xa hn_a).mono ?_
    rintro e w4 ⟨g0, rfl, o_g0, hb4⟩
    have ap_r0_g0 := o_r0.apart o_g0 (Nat.le_refl _)
    have ap_xa_g0 := o_xa.apart o_g0 (Nat.le_refl _)
    replace o_r0 := o_r0.keep hb4
    replace o_xa := o_xa.keep hb4
    have hW4 := below_next hW3 hb4 (Nat.le_refl _)
    clear hb4
    go_wp2_with fail
    refine (eqCycS_own o_g0 o_r0 hn_r.out).mono ?_
    rintro e w5 ⟨rfl, hb5⟩
    replace o_r0 := o_r0.keep hb5
    replace o_xa := o_xa.keep hb5
    replace o_g0 := o_g0.keep hb5
    have hW5 := below_next hW4 hb5 (Nat.le_refl _)
    clear hb5
    go_wp2_with fail
    refine (toCycS_own a acap xs _ W Ha.out hW5 hn_a ac).mono ?_
    rintro e w6 ⟨ta, rfl, o_ta, hb6⟩
    have ap_r0_ta := o_r0.apart o_ta (Nat.le_refl _)
    have ap_xa_ta := o_xa.apart o_ta (Nat.le_refl _)
    have ap_g0_ta := o_g0.apart o_ta (Nat.le_refl _)
    replace o_r0 := o_r0.keep hb6
    replace o_xa := o_xa.keep hb6
    replace o_g0 := o_g0.keep hb6
    have hW6 := below_next hW5 hb6 (Nat.le_refl _)
    clear hb6
    go_wp2_with fail
    refine (eqCycS_own o_xa o_ta hn_a).mono ?_
    rintro e w7 ⟨rfl, hb7⟩
    replace o_r0 := o_r0.keep hb7
    replace o_xa := o_xa.keep hb7
    replace o_g0 := o_g0.keep hb7
    replace o_ta := o_ta.keep hb7
    have hW7 := below_next hW6 hb7 (Nat.le_refl _)
    clear hb7
    clear o_ta
    go_wp2_with fail
    refine (markCycS_any o_xa hn_a _ (by omega) (by omega)).mono ?_
    rintro e w8 ⟨rfl, hg8, l_xa⟩
    have hW8 := below_marked hW7 o_xa hg8 (Nat.le_refl _) (by have := hW2.size; omega)
    replace o_r0 := o_r0.mark hg8 ap_r0_xa
    replace o_g0 := o_g0.mark hg8 ap_xa_g0.symm
    clear o_xa hg8
    clear l_xa
    go_wp2_with fail
    refine (eqCycS_own o_g0 o_r0 hn_r.out).mono ?_
    rintro e w9 ⟨rfl, hb9⟩
    replace o_r0 := o_r0.keep hb9
    replace o_g0 := o_g0.keep hb9
    have hW9 := below_next hW8 hb9 (Nat.le_refl _)
    clear hb9
    go_wp2_with fail
    refine (markCycS_any o_g0 hn_r.out _ (by omega) (by omega)).mono ?_
    rintro e w10 ⟨rfl, hg10, l_g0⟩
    have hW10 := below_marked hW9 o_g0 hg10 (Nat.le_refl _) (by have := hW3.size; omega)
    replace o_r0 := o_r0.mark hg10 ap_r0_g0
    clear o_g0 hg10
    go_wp2_with fail
    refine (heldCycS_any l_g0 hn_r.out (by omega) (by omega)).mono ?_
    rintro e w' ⟨rfl, rfl⟩
    go_wp2_with fail
    refine (toCycS_own a acap xs _ W Ha.out hW10 hn_a ac).mono ?_
    rintro e w11 ⟨ua, rfl, o_ua, hb11⟩
    have ap_r0_ua := o_r0.apart o_ua (Nat.le_refl _)
    replace o_r0 := o_r0.keep hb11
    replace l_g0 := l_g0.keep hb11
    have hW11 := below_next hW10 hb11 (Nat.le_refl _)
    clear hb11
    go_wp2_with fail
    refine (transformBack_own o_ua hn_a).mono ?_
    rintro e w12 ⟨h0, rfl, o_h0, hb12⟩
    have ap_r0_h0 := o_r0.apart o_h0 (Nat.le_refl _)
    have ap_ua_h0 := o_ua.apart o_h0 (Nat.le_refl _)
    replace o_r0 := o_r0.keep hb12
    replace o_ua := o_ua.keep hb12
    replace l_g0 := l_g0.keep hb12
    have hW12 := below_next hW11 hb12 (Nat.le_refl _)
    clear hb12
    go_wp2_with fail
    refine (eqCycS_own o_h0 o_r0 hn_r.out).mono ?_
    rintro e w13 ⟨rfl, hb13⟩
    replace o_r0 := o_r0.keep hb13
    replace o_ua := o_ua.keep hb13
    replace o_h0 := o_h0.keep hb13
    replace l_g0 := l_g0.keep hb13
    have hW13 := below_next hW12 hb13 (Nat.le_refl _)
    clear hb13
    go_wp2_with fail
    refine (heldCycS_any l_g0 hn_r.out (by omega) (by omega)).mono ?_
    rintro e w' ⟨rfl, rfl⟩
    go_wp2
    go_ret
    exact ⟨rfl, hW13⟩
  · go_enter Try.func4, Try.ntmps4
    go_wp2_with fail
    refine (szCycS_any _ _ _ _ (by omega) (by omega) am _).mono ?_
    rw [if_pos (by omega)]
    rintro e w' ⟨rfl, rfl⟩
    go_wp2
    go_ret
    exact ⟨rfl, by repeat' (first | (with_reducible exact Below.refl _ _) | (with_reducible assumption) | (with_reducible refine Below.alloc ?_ ?_ _) | (with_reducible refine below_more ?_ ?_ _ _) | (with_reducible refine below_rd ?_ ?_ _ _) | (with_reducible refine Below.drew ?_) | (with_reducible refine Below.setCell ?_ ?_ _) | go_size)⟩
set_option maxRecDepth 100000 in
theorem fnExactTransformBack_lifted (os : Os) (started : os.Started) (H : Type) (enc : TypeId × Value → H) :
    ReturnsInHanded {} Try.checked os 4 .any (Rows.fnExactTransformBackSpec.pre6 enc Try.prog Try.f4 Rows.fnExactTransformBackRow.domain false) (Rows.fnExactTransformBackSpec.post enc Try.prog Try.f4 false true false false) := by
  refine returnsInHanded_of_change (C := Try.checked) own started (by kernel_rfl) Try.func4
    (ChangeSpec.witness6 (enc := enc) (C := Try.checked) false ⟨#[], #[.slice none 0 0], []⟩ 8 (by kernel_rfl) (by kernel_rfl) (by kernel_rfl) (by kernel_rfl)) ?_
  intro W base args ds gs before hval0 hW hcnd _
  have hval : ∀ (j : Nat) t v, Try.f4.params[j]? = some t → args[j]? = some v → Value.okWide Try.prog W .any base t v := hval0
  have hW' := hW
  obtain ⟨p, q, hA0, hV, rfl, hfz, hnd⟩ := hW
  have hA : DataW.TrodAll enc Try.prog W 0 (fun _ => true) true Try.f4.params.toList args.toList ds p := hA0
  rw [Try.params4] at hA hval
  obtain ⟨v0, vs0, d0, ds0, p0, q0, hargs, rfl, rfl, h0, r0⟩ := trodAll_cons hA
  obtain ⟨rfl, rfl, rfl⟩ := trodAll_nil r0
  obtain rfl : args = #[v0] := by cases args; simp_all
  obtain ⟨rfl, rfl⟩ := trodVars_none hV
  have k0 := h0
  have lt0 : ∀ x ∈ p0, x.block < W.heap.size := by obtain ⟨m, hm⟩ := k0; exact DataW.trod_lt m _ _ _ hm
  obtain ⟨a, acap, xs, rfl, ahc, ahx, ahm⟩ : ∃ (a : Option Addr) (cap : Nat) (xs : List C8), v0 = .slice a xs.length cap ∧ xs.length ≤ cap ∧ HasC W W.heap.size a xs ∧ xs.length ≤ 9223372036854775807 := open_cycs (hval 0 22 v0 rfl rfl) h0
  clear hA0 hval0
  refine (fnExactTransformBack_any a acap xs W ahx ahc ahm).mono fun e W' ⟨he, bel⟩ => ?_
  subst he
  exact ⟨_, rfl, _, _, _, [], _, [], hW', trodAll_mk1 (shut_bool Try.underlying4 _), (trodAll_cons_mk (Below.trod laidOut (by kernel_rfl) (of_decide_eq_true (by kernel_rfl)) k0 bel lt0) trodAll_mk0), rfl, bel.frame _, fun h => by cases h⟩

theorem fnExactTransformBack_holds : Rows.FnExactTransformBackSaid :=
  OpenClaim.holds_of_wide 4 Try.f4 rfl rfl rfl rfl rfl rfl rfl ⟨rfl, rfl, rfl, rfl, rfl⟩ rfl rfl rfl rfl rfl (by kernel_rfl) Try.func4 (by kernel_rfl)
    (of_decide_eq_true (by kernel_rfl)) (by unfold Func.isWrapper; first | (rw [if_pos (by decide +kernel)]; kernel_rfl) | (rw [if_neg (by decide +kernel)]; exact ⟨rfl, rfl⟩))
    (fun os started H enc _ => fnExactTransformBack_lifted os started H enc)
#print axioms fnExactTransformBack_holds
end Go.Proofs.Ytelgbmebjickeaa
