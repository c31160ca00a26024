/- laws.FnExactRowOf returns true, whatever it is called with. Condition: none. -/
import Derived.Test.YtklmlodapinflaaRowLawO
namespace Go.Proofs.Ytklmlodapinflaa
open Go.ChangeShapes Go.WideShapes Go.ChangeAt Go.RowKit Go.Joins

set_option maxRecDepth 100000 in
set_option maxHeartbeats 4000000 in
theorem fnExactRowOf_any (a : Option Addr) (acap : Nat) (xs : List W9) (n : Int) (hn1 : n ≤ 9223372036854775807) (W : World) (ha : HasWC W W.heap.size a xs) (ac : xs.length ≤ acap) (am : xs.length ≤ 9223372036854775807) :
    Calls Try.prog 13 #[.slice a xs.length acap, .int .i64 n] W fun e w' => e = .returned (.bool true) ∧ Below W.heap.size W w' := by
  by_cases hq : xs.length ≤ 1048576
  · have hn_a : xs.length ≤ 1048576 := by omega
    have Ha := Lib.hid ha
    clear ha
    have hn_r := Lib.hid (roR_len xs n)
    go_enter Try.func13, Try.ntmps13
    go_wp2_with fail
    refine (szWheelS_any _ _ _ _ (by omega) (by omega) am _).mono ?_
    rw [if_neg (by omega)]
    rintro e w' ⟨rfl, rfl⟩
    have hW0 : Below W.heap.size W W := Below.refl _ _
    go_wp2_with fail
    refine (toWheelS_own a acap xs _ W Ha.out hW0 hn_a ac).mono ?_
    rintro e w1 ⟨s0, rfl, o_s0, hb1⟩
    have hW1 := below_next hW0 hb1 (Nat.le_refl _)
    clear hb1
    go_wp2_with fail
    refine (specRowOf_own o_s0 n hn1 hn_a).mono ?_
    rintro e w2 ⟨r0, rfl, o_r0, hb2⟩
    have ap_s0_r0 := o_s0.apart o_r0 (Nat.le_refl _)
    replace o_s0 := o_s0.keep hb2
    have hW2 := below_next hW1 hb2 (Nat.le_refl _)
    clear hb2
    clear o_s0
    go_wp2_with fail
    refine (toWheelS_own a acap xs _ W Ha.out hW2 hn_a ac).mono ?_
    rintro e w3 ⟨x0, rfl, o_x0, hb3⟩
    have ap_r0_x0 := o_r0.apartW o_x0 (Nat.le_refl _)
    replace o_r0 := o_r0.keep hb3
    have hW3 := below_next hW2 hb3 (Nat.le_refl _)
    clear hb3
    go_wp2_with fail
    refine (rowOf_own o_x0 n hn1 hn_a).mono ?_
    rintro e w4 ⟨g0, rfl, o_g0, hb4⟩
    have ap_r0_g0 := o_r0.apart o_g0 (Nat.le_refl _)
    have ap_x0_g0 := o_x0.apart o_g0 (Nat.le_refl _)
    replace o_r0 := o_r0.keep hb4
    replace o_x0 := o_x0.keep hb4
    have hW4 := below_next hW3 hb4 (Nat.le_refl _)
    clear hb4
    go_wp2_with fail
    refine (eqCycS_own o_g0 o_r0 hn_r.out).mono ?_
    rintro e w5 ⟨rfl, hb5⟩
    replace o_r0 := o_r0.keep hb5
    replace o_x0 := o_x0.keep hb5
    replace o_g0 := o_g0.keep hb5
    have hW5 := below_next hW4 hb5 (Nat.le_refl _)
    clear hb5
    go_wp2_with fail
    refine (toWheelS_own a acap xs _ W Ha.out hW5 hn_a ac).mono ?_
    rintro e w6 ⟨t0, rfl, o_t0, hb6⟩
    have ap_r0_t0 := o_r0.apartW o_t0 (Nat.le_refl _)
    have ap_x0_t0 := o_x0.apartW o_t0 (Nat.le_refl _)
    have ap_g0_t0 := o_g0.apartW o_t0 (Nat.le_refl _)
    replace o_r0 := o_r0.keep hb6
    replace o_x0 := o_x0.keep hb6
    replace o_g0 := o_g0.keep hb6
    have hW6 := below_next hW5 hb6 (Nat.le_refl _)
    clear hb6
    go_wp2_with fail
    refine (eqWheelS_own o_x0 o_t0 hn_a).mono ?_
    rintro e w7 ⟨rfl, hb7⟩
    replace o_r0 := o_r0.keep hb7
    replace o_x0 := o_x0.keep hb7
    replace o_g0 := o_g0.keep hb7
    replace o_t0 := o_t0.keep hb7
    have hW7 := below_next hW6 hb7 (Nat.le_refl _)
    clear hb7
    clear o_t0
    go_wp2_with fail
    refine (markWheelS_any o_x0 hn_a _ (by omega) (by omega)).mono ?_
    rintro e w8 ⟨rfl, hg8, l_x0⟩
    have hW8 := below_markedW hW7 o_x0 hg8 (Nat.le_refl _) (by have := hW2.size; omega)
    replace o_r0 := o_r0.mark hg8 ap_r0_x0
    replace o_g0 := o_g0.mark hg8 ap_x0_g0.symm
    clear o_x0 hg8
    clear l_x0
    go_wp2_with fail
    refine (eqCycS_own o_g0 o_r0 hn_r.out).mono ?_
    rintro e w9 ⟨rfl, hb9⟩
    replace o_r0 := o_r0.keep hb9
    replace o_g0 := o_g0.keep hb9
    have hW9 := below_next hW8 hb9 (Nat.le_refl _)
    clear hb9
    go_wp2_with fail
    refine (markCycS_any o_g0 hn_r.out _ (by omega) (by omega)).mono ?_
    rintro e w10 ⟨rfl, hg10, l_g0⟩
    have hW10 := below_marked hW9 o_g0 hg10 (Nat.le_refl _) (by have := hW3.size; omega)
    replace o_r0 := o_r0.mark hg10 ap_r0_g0
    clear o_g0 hg10
    go_wp2_with fail
    refine (heldCycS_any l_g0 hn_r.out (by omega) (by omega)).mono ?_
    rintro e w' ⟨rfl, rfl⟩
    go_wp2_with fail
    refine (toWheelS_own a acap xs _ W Ha.out hW10 hn_a ac).mono ?_
    rintro e w11 ⟨u0, rfl, o_u0, hb11⟩
    have ap_r0_u0 := o_r0.apartW o_u0 (Nat.le_refl _)
    replace o_r0 := o_r0.keep hb11
    replace l_g0 := l_g0.keep hb11
    have hW11 := below_next hW10 hb11 (Nat.le_refl _)
    clear hb11
    go_wp2_with fail
    refine (rowOf_own o_u0 n hn1 hn_a).mono ?_
    rintro e w12 ⟨h0, rfl, o_h0, hb12⟩
    have ap_r0_h0 := o_r0.apart o_h0 (Nat.le_refl _)
    have ap_u0_h0 := o_u0.apart o_h0 (Nat.le_refl _)
    replace o_r0 := o_r0.keep hb12
    replace o_u0 := o_u0.keep hb12
    replace l_g0 := l_g0.keep hb12
    have hW12 := below_next hW11 hb12 (Nat.le_refl _)
    clear hb12
    go_wp2_with fail
    refine (eqCycS_own o_h0 o_r0 hn_r.out).mono ?_
    rintro e w13 ⟨rfl, hb13⟩
    replace o_r0 := o_r0.keep hb13
    replace o_u0 := o_u0.keep hb13
    replace o_h0 := o_h0.keep hb13
    replace l_g0 := l_g0.keep hb13
    have hW13 := below_next hW12 hb13 (Nat.le_refl _)
    clear hb13
    go_wp2_with fail
    refine (heldCycS_any l_g0 hn_r.out (by omega) (by omega)).mono ?_
    rintro e w' ⟨rfl, rfl⟩
    go_wp2
    go_ret
    exact ⟨rfl, hW13⟩
  · go_enter Try.func13, Try.ntmps13
    go_wp2_with fail
    refine (szWheelS_any _ _ _ _ (by omega) (by omega) am _).mono ?_
    rw [if_pos (by omega)]
    rintro e w' ⟨rfl, rfl⟩
    go_wp2
    go_ret
    exact ⟨rfl, by repeat' (first | (with_reducible exact Below.refl _ _) | (with_reducible assumption) | (with_reducible refine Below.alloc ?_ ?_ _) | (with_reducible refine below_more ?_ ?_ _ _) | (with_reducible refine below_rd ?_ ?_ _ _) | (with_reducible refine Below.drew ?_) | (with_reducible refine Below.setCell ?_ ?_ _) | go_size)⟩
theorem wf_i64 {n : Int} (h : (Lit.int .i64 n).wf = true) : n ≤ 9223372036854775807 := by
  simp only [Lit.wf, Bool.and_eq_true, decide_eq_true_eq] at h
  exact Int.le_trans h.2 (by decide)
set_option maxRecDepth 100000 in
theorem fnExactRowOf_lifted (os : Os) (started : os.Started) (H : Type) (enc : TypeId × Value → H) :
    ReturnsInHanded {} Try.checked os 13 .any (Rows.fnExactRowOfSpec.pre6 enc Try.prog Try.f13 Rows.fnExactRowOfRow.domain false) (Rows.fnExactRowOfSpec.post enc Try.prog Try.f13 false true false false) := by
  refine returnsInHanded_of_change (C := Try.checked) own started (by kernel_rfl) Try.func13
    (ChangeSpec.witness6 (enc := enc) (C := Try.checked) false ⟨#[], #[.slice none 0 0, .int .i64 0], []⟩ 8 (by kernel_rfl) (by kernel_rfl) (by kernel_rfl) (by kernel_rfl)) ?_
  intro W base args ds gs before hval0 hW hcnd _
  have hval : ∀ (j : Nat) t v, Try.f13.params[j]? = some t → args[j]? = some v → Value.okWide Try.prog W .any base t v := hval0
  have hW' := hW
  obtain ⟨p, q, hA0, hV, rfl, hfz, hnd⟩ := hW
  have hA : DataW.TrodAll enc Try.prog W 0 (fun _ => true) true Try.f13.params.toList args.toList ds p := hA0
  rw [Try.params13] at hA hval
  obtain ⟨v0, vs0, d0, ds0, p0, q0, hargs, rfl, rfl, h0, r0⟩ := trodAll_cons hA
  obtain ⟨v1, vs1, d1, ds1, p1, q1, rfl, rfl, rfl, h1, r1⟩ := trodAll_cons r0
  obtain ⟨rfl, rfl, rfl⟩ := trodAll_nil r1
  obtain rfl : args = #[v0, v1] := by cases args; simp_all
  obtain ⟨rfl, rfl⟩ := trodVars_none hV
  have k0 := h0
  have lt0 : ∀ x ∈ p0, x.block < W.heap.size := by obtain ⟨m, hm⟩ := k0; exact DataW.trod_lt m _ _ _ hm
  have k1 := h1
  have lt1 : ∀ x ∈ p1, x.block < W.heap.size := by obtain ⟨m, hm⟩ := k1; exact DataW.trod_lt m _ _ _ hm
  obtain ⟨a, acap, axs, rfl, ahc, ahx, ahm⟩ : ∃ (a : Option Addr) (cap : Nat) (xs : List W9), v0 = .slice a xs.length cap ∧ xs.length ≤ cap ∧ HasWC W W.heap.size a xs ∧ xs.length ≤ 9223372036854775807 := open_wheels (hval 0 56 v0 rfl rfl) h0
  obtain ⟨n, rfl, wb⟩ : ∃ x, v1 = .int .i64 x ∧ (Lit.int .i64 x).wf = true := by
    obtain ⟨x, e, -, -, wx⟩ := open_int Try.underlying3 (hval 1 3 v1 rfl rfl) h1
    exact ⟨x, e, wx⟩
  have hn1 : n ≤ 9223372036854775807 := wf_i64 wb
  clear hA0 hval0
  refine (fnExactRowOf_any a acap axs n hn1 W ahx ahc ahm).mono fun e W' ⟨he, bel⟩ => ?_
  subst he
  exact ⟨_, rfl, _, _, _, [], _, [], hW', trodAll_mk1 (shut_bool Try.underlying4 _), (trodAll_cons_mk (Below.trod laidOut (by kernel_rfl) (of_decide_eq_true (by kernel_rfl)) k0 bel lt0) (trodAll_cons_mk (Below.trod laidOut (by kernel_rfl) (of_decide_eq_true (by kernel_rfl)) k1 bel lt1) trodAll_mk0)), rfl, bel.frame _, fun h => by cases h⟩

theorem fnExactRowOf_holds : Rows.FnExactRowOfSaid :=
  OpenClaim.holds_of_wide 13 Try.f13 rfl rfl rfl rfl rfl rfl rfl ⟨rfl, rfl, rfl, rfl, rfl⟩ rfl rfl rfl rfl rfl (by kernel_rfl) Try.func13 (by kernel_rfl)
    (of_decide_eq_true (by kernel_rfl)) (by unfold Func.isWrapper; first | (rw [if_pos (by decide +kernel)]; kernel_rfl) | (rw [if_neg (by decide +kernel)]; exact ⟨rfl, rfl⟩))
    (fun os started H enc _ => fnExactRowOf_lifted os started H enc)
#print axioms fnExactRowOf_holds
end Go.Proofs.Ytklmlodapinflaa
