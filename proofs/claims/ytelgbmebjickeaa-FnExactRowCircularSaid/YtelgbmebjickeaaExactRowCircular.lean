/- laws.FnExactRowCircular returns true, whatever it is called with. Condition: none. -/
import Derived.Test.YtelgbmebjickeaaRowLawC
namespace Go.Proofs.Ytelgbmebjickeaa
open Go.ChangeShapes Go.WideShapes Go.ChangeAt Go.RowKit Go.Joins

set_option maxRecDepth 100000 in
set_option maxHeartbeats 4000000 in
theorem fnExactRowCircular_any (a : Option Addr) (acap : Nat) (xs : List C8) (b : Option Addr) (bcap : Nat) (ys : List C8) (W : World) (ha : HasC W W.heap.size a xs) (ac : xs.length ≤ acap) (am : xs.length ≤ 9223372036854775807) (hb : HasC W W.heap.size b ys) (bc : ys.length ≤ bcap) (bm : ys.length ≤ 9223372036854775807) :
    Calls Try.prog 8 #[.slice a xs.length acap, .slice b ys.length bcap] W fun e w' => e = .returned (.bool true) ∧ Below W.heap.size W w' := by
  by_cases hq : xs.length ≤ 1048576
  · by_cases hq2 : xs.length + ys.length ≤ 1048576
    · have hn_a : xs.length ≤ 1048576 := by omega
      have hn_b : ys.length ≤ 1048576 := by omega
      have Ha := Lib.hid ha
      have Hb := Lib.hid hb
      clear ha hb
      have hn_r := Lib.hid (show (rcR xs ys).length ≤ 1048576 from Nat.le_trans (rcR_len xs ys) (by omega))
      go_enter Try.func8, Try.ntmps8
      go_wp2_with fail
      refine (szCycS_any _ _ _ _ (by omega) (by omega) am _).mono ?_
      rw [if_neg (by omega)]
      rintro e w' ⟨rfl, rfl⟩
      go_wp2_with fail
      refine (szCycS_any _ _ _ _ (by omega) (by omega) bm _).mono ?_
      rw [if_neg (by omega)]
      rintro e w' ⟨rfl, rfl⟩
      have hW0 : Below W.heap.size W W := Below.refl _ _
      go_wp2_with fail
      refine (toCycS_own a acap xs _ W Ha.out hW0 hn_a ac).mono ?_
      rintro e w1 ⟨sa, rfl, o_sa, hb1⟩
      have hW1 := below_next hW0 hb1 (Nat.le_refl _)
      clear hb1
      go_wp2_with fail
      refine (toCycS_own b bcap ys _ W Hb.out hW1 hn_b bc).mono ?_
      rintro e w2 ⟨sb, rfl, o_sb, hb2⟩
      have ap_sa_sb := o_sa.apart o_sb (Nat.le_refl _)
      replace o_sa := o_sa.keep hb2
      have hW2 := below_next hW1 hb2 (Nat.le_refl _)
      clear hb2
      go_wp2_with fail
      refine (specRowCircular_own o_sa o_sb hn_a hn_b).mono ?_
      rintro e w3 ⟨r0, rfl, o_r0, hb3⟩
      have ap_sa_r0 := o_sa.apart o_r0 (Nat.le_refl _)
      have ap_sb_r0 := o_sb.apart o_r0 (Nat.le_refl _)
      replace o_sa := o_sa.keep hb3
      replace o_sb := o_sb.keep hb3
      have hW3 := below_next hW2 hb3 (Nat.le_refl _)
      clear hb3
      clear o_sa
      clear o_sb
      go_wp2_with fail
      refine (toCycS_own a acap xs _ W Ha.out hW3 hn_a ac).mono ?_
      rintro e w4 ⟨xa, rfl, o_xa, hb4⟩
      have ap_r0_xa := o_r0.apart o_xa (Nat.le_refl _)
      replace o_r0 := o_r0.keep hb4
      have hW4 := below_next hW3 hb4 (Nat.le_refl _)
      clear hb4
      go_wp2_with fail
      refine (toCycS_own b bcap ys _ W Hb.out hW4 hn_b bc).mono ?_
      rintro e w5 ⟨xb, rfl, o_xb, hb5⟩
      have ap_r0_xb := o_r0.apart o_xb (Nat.le_refl _)
      have ap_xa_xb := o_xa.apart o_xb (Nat.le_refl _)
      replace o_r0 := o_r0.keep hb5
      replace o_xa := o_xa.keep hb5
      have hW5 := below_next hW4 hb5 (Nat.le_refl _)
      clear hb5
      go_wp2_with fail
      refine (rowCircular_own o_xa o_xb hn_a hn_b).mono ?_
      rintro e w6 ⟨g0, rfl, o_g0, hb6⟩
      have ap_r0_g0 := o_r0.apart o_g0 (Nat.le_refl _)
      have ap_xa_g0 := o_xa.apart o_g0 (Nat.le_refl _)
      have ap_xb_g0 := o_xb.apart o_g0 (Nat.le_refl _)
      replace o_r0 := o_r0.keep hb6
      replace o_xa := o_xa.keep hb6
      replace o_xb := o_xb.keep hb6
      have hW6 := below_next hW5 hb6 (Nat.le_refl _)
      clear hb6
      go_wp2_with fail
      refine (eqCycS_own o_g0 o_r0 hn_r.out).mono ?_
      rintro e w7 ⟨rfl, hb7⟩
      replace o_r0 := o_r0.keep hb7
      replace o_xa := o_xa.keep hb7
      replace o_xb := o_xb.keep hb7
      replace o_g0 := o_g0.keep hb7
      have hW7 := below_next hW6 hb7 (Nat.le_refl _)
      clear hb7
      go_wp2_with fail
      refine (toCycS_own a acap xs _ W Ha.out hW7 hn_a ac).mono ?_
      rintro e w8 ⟨ta, rfl, o_ta, hb8⟩
      have ap_r0_ta := o_r0.apart o_ta (Nat.le_refl _)
      have ap_xa_ta := o_xa.apart o_ta (Nat.le_refl _)
      have ap_xb_ta := o_xb.apart o_ta (Nat.le_refl _)
      have ap_g0_ta := o_g0.apart o_ta (Nat.le_refl _)
      replace o_r0 := o_r0.keep hb8
      replace o_xa := o_xa.keep hb8
      replace o_xb := o_xb.keep hb8
      replace o_g0 := o_g0.keep hb8
      have hW8 := below_next hW7 hb8 (Nat.le_refl _)
      clear hb8
      go_wp2_with fail
      refine (eqCycS_own o_xa o_ta hn_a).mono ?_
      rintro e w9 ⟨rfl, hb9⟩
      replace o_r0 := o_r0.keep hb9
      replace o_xa := o_xa.keep hb9
      replace o_xb := o_xb.keep hb9
      replace o_g0 := o_g0.keep hb9
      replace o_ta := o_ta.keep hb9
      have hW9 := below_next hW8 hb9 (Nat.le_refl _)
      clear hb9
      clear o_ta
      go_wp2_with fail
      refine (toCycS_own b bcap ys _ W Hb.out hW9 hn_b bc).mono ?_
      rintro e w10 ⟨tb, rfl, o_tb, hb10⟩
      have ap_r0_tb := o_r0.apart o_tb (Nat.le_refl _)
      have ap_xa_tb := o_xa.apart o_tb (Nat.le_refl _)
      have ap_xb_tb := o_xb.apart o_tb (Nat.le_refl _)
      have ap_g0_tb := o_g0.apart o_tb (Nat.le_refl _)
      replace o_r0 := o_r0.keep hb10
      replace o_xa := o_xa.keep hb10
      replace o_xb := o_xb.keep hb10
      replace o_g0 := o_g0.keep hb10
      have hW10 := below_next hW9 hb10 (Nat.le_refl _)
      clear hb10
      go_wp2_with fail
      refine (eqCycS_own o_xb o_tb hn_b).mono ?_
      rintro e w11 ⟨rfl, hb11⟩
      replace o_r0 := o_r0.keep hb11
      replace o_xa := o_xa.keep hb11
      replace o_xb := o_xb.keep hb11
      replace o_g0 := o_g0.keep hb11
      replace o_tb := o_tb.keep hb11
      have hW11 := below_next hW10 hb11 (Nat.le_refl _)
      clear hb11
      clear o_tb
      go_wp2_with fail
      refine (markCycS_any o_xa hn_a _ (by omega) (by omega)).mono ?_
      rintro e w12 ⟨rfl, hg12, l_xa⟩
      have hW12 := below_marked hW11 o_xa hg12 (Nat.le_refl _) (by have := hW3.size; omega)
      replace o_r0 := o_r0.mark hg12 ap_r0_xa
      replace o_xb := o_xb.mark hg12 ap_xa_xb.symm
      replace o_g0 := o_g0.mark hg12 ap_xa_g0.symm
      clear o_xa hg12
      clear l_xa
      go_wp2_with fail
      refine (markCycS_any o_xb hn_b _ (by omega) (by omega)).mono ?_
      rintro e w13 ⟨rfl, hg13, l_xb⟩
      have hW13 := below_marked hW12 o_xb hg13 (Nat.le_refl _) (by have := hW4.size; omega)
      replace o_r0 := o_r0.mark hg13 ap_r0_xb
      replace o_g0 := o_g0.mark hg13 ap_xb_g0.symm
      clear o_xb hg13
      clear l_xb
      go_wp2_with fail
      refine (eqCycS_own o_g0 o_r0 hn_r.out).mono ?_
      rintro e w14 ⟨rfl, hb14⟩
      replace o_r0 := o_r0.keep hb14
      replace o_g0 := o_g0.keep hb14
      have hW14 := below_next hW13 hb14 (Nat.le_refl _)
      clear hb14
      go_wp2_with fail
      refine (markCycS_any o_g0 hn_r.out _ (by omega) (by omega)).mono ?_
      rintro e w15 ⟨rfl, hg15, l_g0⟩
      have hW15 := below_marked hW14 o_g0 hg15 (Nat.le_refl _) (by have := hW5.size; omega)
      replace o_r0 := o_r0.mark hg15 ap_r0_g0
      clear o_g0 hg15
      go_wp2_with fail
      refine (heldCycS_any l_g0 hn_r.out (by omega) (by omega)).mono ?_
      rintro e w' ⟨rfl, rfl⟩
      go_wp2_with fail
      refine (toCycS_own a acap xs _ W Ha.out hW15 hn_a ac).mono ?_
      rintro e w16 ⟨ua, rfl, o_ua, hb16⟩
      have ap_r0_ua := o_r0.apart o_ua (Nat.le_refl _)
      replace o_r0 := o_r0.keep hb16
      replace l_g0 := l_g0.keep hb16
      have hW16 := below_next hW15 hb16 (Nat.le_refl _)
      clear hb16
      go_wp2_with fail
      refine (toCycS_own b bcap ys _ W Hb.out hW16 hn_b bc).mono ?_
      rintro e w17 ⟨ub, rfl, o_ub, hb17⟩
      have ap_r0_ub := o_r0.apart o_ub (Nat.le_refl _)
      have ap_ua_ub := o_ua.apart o_ub (Nat.le_refl _)
      replace o_r0 := o_r0.keep hb17
      replace o_ua := o_ua.keep hb17
      replace l_g0 := l_g0.keep hb17
      have hW17 := below_next hW16 hb17 (Nat.le_refl _)
      clear hb17
      go_wp2_with fail
      refine (rowCircular_own o_ua o_ub hn_a hn_b).mono ?_
      rintro e w18 ⟨h0, rfl, o_h0, hb18⟩
      have ap_r0_h0 := o_r0.apart o_h0 (Nat.le_refl _)
      have ap_ua_h0 := o_ua.apart o_h0 (Nat.le_refl _)
      have ap_ub_h0 := o_ub.apart o_h0 (Nat.le_refl _)
      replace o_r0 := o_r0.keep hb18
      replace o_ua := o_ua.keep hb18
      replace o_ub := o_ub.keep hb18
      replace l_g0 := l_g0.keep hb18
      have hW18 := below_next hW17 hb18 (Nat.le_refl _)
      clear hb18
      go_wp2_with fail
      refine (eqCycS_own o_h0 o_r0 hn_r.out).mono ?_
      rintro e w19 ⟨rfl, hb19⟩
      replace o_r0 := o_r0.keep hb19
      replace o_ua := o_ua.keep hb19
      replace o_ub := o_ub.keep hb19
      replace o_h0 := o_h0.keep hb19
      replace l_g0 := l_g0.keep hb19
      have hW19 := below_next hW18 hb19 (Nat.le_refl _)
      clear hb19
      go_wp2_with fail
      refine (heldCycS_any l_g0 hn_r.out (by omega) (by omega)).mono ?_
      rintro e w' ⟨rfl, rfl⟩
      go_wp2
      go_ret
      exact ⟨rfl, hW19⟩
    · go_enter Try.func8, Try.ntmps8
      go_wp2_with fail
      refine (szCycS_any _ _ _ _ (by omega) (by omega) am _).mono ?_
      rw [if_neg (by omega)]
      rintro e w' ⟨rfl, rfl⟩
      go_wp2_with fail
      refine (szCycS_any _ _ _ _ (by omega) (by omega) bm _).mono ?_
      rw [if_pos (by omega)]
      rintro e w' ⟨rfl, rfl⟩
      go_wp2
      go_ret
      exact ⟨rfl, by repeat' (first | (with_reducible exact Below.refl _ _) | (with_reducible assumption) | (with_reducible refine Below.alloc ?_ ?_ _) | (with_reducible refine below_more ?_ ?_ _ _) | (with_reducible refine below_rd ?_ ?_ _ _) | (with_reducible refine Below.drew ?_) | (with_reducible refine Below.setCell ?_ ?_ _) | go_size)⟩
  · go_enter Try.func8, Try.ntmps8
    go_wp2_with fail
    refine (szCycS_any _ _ _ _ (by omega) (by omega) am _).mono ?_
    rw [if_pos (by omega)]
    rintro e w' ⟨rfl, rfl⟩
    go_wp2
    go_ret
    exact ⟨rfl, by repeat' (first | (with_reducible exact Below.refl _ _) | (with_reducible assumption) | (with_reducible refine Below.alloc ?_ ?_ _) | (with_reducible refine below_more ?_ ?_ _ _) | (with_reducible refine below_rd ?_ ?_ _ _) | (with_reducible refine Below.drew ?_) | (with_reducible refine Below.setCell ?_ ?_ _) | go_size)⟩
set_option maxRecDepth 100000 in
theorem fnExactRowCircular_lifted (os : Os) (started : os.Started) (H : Type) (enc : TypeId × Value → H) :
    ReturnsInHanded {} Try.checked os 8 .any (Rows.fnExactRowCircularSpec.pre6 enc Try.prog Try.f8 Rows.fnExactRowCircularRow.domain false) (Rows.fnExactRowCircularSpec.post enc Try.prog Try.f8 false true false false) := by
  refine returnsInHanded_of_change (C := Try.checked) own started (by kernel_rfl) Try.func8
    (ChangeSpec.witness6 (enc := enc) (C := Try.checked) false ⟨#[], #[.slice none 0 0, .slice none 0 0], []⟩ 8 (by kernel_rfl) (by kernel_rfl) (by kernel_rfl) (by kernel_rfl)) ?_
  intro W base args ds gs before hval0 hW hcnd _
  have hval : ∀ (j : Nat) t v, Try.f8.params[j]? = some t → args[j]? = some v → Value.okWide Try.prog W .any base t v := hval0
  have hW' := hW
  obtain ⟨p, q, hA0, hV, rfl, hfz, hnd⟩ := hW
  have hA : DataW.TrodAll enc Try.prog W 0 (fun _ => true) true Try.f8.params.toList args.toList ds p := hA0
  rw [Try.params8] at hA hval
  obtain ⟨v0, vs0, d0, ds0, p0, q0, hargs, rfl, rfl, h0, r0⟩ := trodAll_cons hA
  obtain ⟨v1, vs1, d1, ds1, p1, q1, rfl, rfl, rfl, h1, r1⟩ := trodAll_cons r0
  obtain ⟨rfl, rfl, rfl⟩ := trodAll_nil r1
  obtain rfl : args = #[v0, v1] := by cases args; simp_all
  obtain ⟨rfl, rfl⟩ := trodVars_none hV
  have k0 := h0
  have lt0 : ∀ x ∈ p0, x.block < W.heap.size := by obtain ⟨m, hm⟩ := k0; exact DataW.trod_lt m _ _ _ hm
  have k1 := h1
  have lt1 : ∀ x ∈ p1, x.block < W.heap.size := by obtain ⟨m, hm⟩ := k1; exact DataW.trod_lt m _ _ _ hm
  obtain ⟨a, acap, xs, rfl, ahc, ahx, ahm⟩ : ∃ (a : Option Addr) (cap : Nat) (xs : List C8), v0 = .slice a xs.length cap ∧ xs.length ≤ cap ∧ HasC W W.heap.size a xs ∧ xs.length ≤ 9223372036854775807 := open_cycs (hval 0 22 v0 rfl rfl) h0
  obtain ⟨b, bcap, ys, rfl, bhc, bhx, bhm⟩ : ∃ (a : Option Addr) (cap : Nat) (xs : List C8), v1 = .slice a xs.length cap ∧ xs.length ≤ cap ∧ HasC W W.heap.size a xs ∧ xs.length ≤ 9223372036854775807 := open_cycs (hval 1 22 v1 rfl rfl) h1
  clear hA0 hval0
  refine (fnExactRowCircular_any a acap xs b bcap ys W ahx ahc ahm bhx bhc bhm).mono fun e W' ⟨he, bel⟩ => ?_
  subst he
  exact ⟨_, rfl, _, _, _, [], _, [], hW', trodAll_mk1 (shut_bool Try.underlying4 _), (trodAll_cons_mk (Below.trod laidOut (by kernel_rfl) (of_decide_eq_true (by kernel_rfl)) k0 bel lt0) (trodAll_cons_mk (Below.trod laidOut (by kernel_rfl) (of_decide_eq_true (by kernel_rfl)) k1 bel lt1) trodAll_mk0)), rfl, bel.frame _, fun h => by cases h⟩

theorem fnExactRowCircular_holds : Rows.FnExactRowCircularSaid :=
  OpenClaim.holds_of_wide 8 Try.f8 rfl rfl rfl rfl rfl rfl rfl ⟨rfl, rfl, rfl, rfl, rfl⟩ rfl rfl rfl rfl rfl (by kernel_rfl) Try.func8 (by kernel_rfl)
    (of_decide_eq_true (by kernel_rfl)) (by unfold Func.isWrapper; first | (rw [if_pos (by decide +kernel)]; kernel_rfl) | (rw [if_neg (by decide +kernel)]; exact ⟨rfl, rfl⟩))
    (fun os started H enc _ => fnExactRowCircular_lifted os started H enc)
#print axioms fnExactRowCircular_holds
end Go.Proofs.Ytelgbmebjickeaa
