/- laws.FnShift returns true, whatever the code. Condition: none. -/
import Derived.Test.YtelgbmebjickeaaDrawT
import Derived.Test.YtelgbmebjickeaaRowLawT
import Derived.Test.YtelgbmebjickeaaRowLawS
import Derived.Test.YtelgbmebjickeaaLawA
namespace Go.Proofs.Ytelgbmebjickeaa
open Go.ChangeShapes Go.WideShapes Go.ChangeAt Go.RowKit Go.Joins

set_option maxRecDepth 100000 in
set_option maxHeartbeats 8000000 in
theorem fnShift_any (a : Option Addr) (len cap : Nat) (W : World) (hv : HasB W W.heap.size a len) (hc : len ≤ cap) :
    Calls Try.prog 7 #[.slice a len cap] W fun e w' => e = .returned (.bool true) ∧ Below W.heap.size W w' := by
  by_cases hl : len ≤ 1048576
  · go_enter Try.func7, Try.ntmps7
    go_wp2_with fail
    refine (drawRowShift_any a len cap W.heap.size W W hv (Below.refl _ _) (Nat.le_refl _) hl hc).mono ?_
    rintro e w1 ⟨va, xs, m, rfl, hx, hm, o_va, hW1⟩
    obtain ⟨aa, ac, rfl, -⟩ := o_va.hasP
    go_wp2_with fail
    refine (rowShift_own o_va m (by omega)).mono ?_
    rintro e w2 ⟨g0, rfl, o_g0, hb2⟩
    have ap_va_g0 := o_va.apart o_g0 (Nat.le_refl _)
    replace o_va := o_va.keep hb2
    have hW2 := below_next hW1 hb2 (Nat.le_refl _)
    clear hb2
    go_wp2_with fail
    refine (specRowShift_own o_va m (by omega)).mono ?_
    rintro e w3 ⟨r0, rfl, o_r0, hb3⟩
    have ap_va_r0 := o_va.apart o_r0 (Nat.le_refl _)
    have ap_g0_r0 := o_g0.apart o_r0 (Nat.le_refl _)
    replace o_va := o_va.keep hb3
    replace o_g0 := o_g0.keep hb3
    have hW3 := below_next hW2 hb3 (Nat.le_refl _)
    clear hb3
    have hr : (shR xs m).length ≤ 1048576 := Nat.le_trans (shR_len xs m) (by omega)
    rcases Bool.eq_false_or_eq_true (shOk xs m) with hok | hok
    · obtain ⟨k, hk, hk1, ⟨hn1, hn2, hn3⟩, hl, -⟩ := shR_yes hok
      have HOK := Lib.hid hok
      have HK := Lib.hid hk
      have HL := Lib.hid hl
      have HD := Lib.hid hn3
      clear hk hl hn3
      obtain ⟨ga, gc, rfl, -⟩ := o_g0.hasP
      have hq : ((shR xs m).length : Int) = (xs.length : Int) := by rw [HL.out]
      go_wp2_with fail
      refine (sameCycs_own o_g0 o_r0 hr).mono ?_
      rintro e w4 ⟨rfl, hb4⟩
      replace o_va := o_va.keep hb4
      replace o_g0 := o_g0.keep hb4
      replace o_r0 := o_r0.keep hb4
      have hW4 := below_next hW3 hb4 (Nat.le_refl _)
      clear hb4
      clear o_r0
      go_wp2_with fail
      refine (transformOf_own o_va (by omega)).mono ?_
      rintro e w5 ⟨a0, rfl, o_a0, hb5⟩
      have ap_va_a0 := o_va.apart o_a0 (Nat.le_refl _)
      have ap_g0_a0 := o_g0.apart o_a0 (Nat.le_refl _)
      replace o_va := o_va.keep hb5
      replace o_g0 := o_g0.keep hb5
      have hW5 := below_next hW4 hb5 (Nat.le_refl _)
      clear hb5
      go_wp2_with fail
      refine (transformOf_own o_g0 hr).mono ?_
      rintro e w6 ⟨b0, rfl, o_b0, hb6⟩
      have ap_va_b0 := o_va.apart o_b0 (Nat.le_refl _)
      have ap_g0_b0 := o_g0.apart o_b0 (Nat.le_refl _)
      have ap_a0_b0 := o_a0.apart o_b0 (Nat.le_refl _)
      replace o_va := o_va.keep hb6
      replace o_g0 := o_g0.keep hb6
      replace o_a0 := o_a0.keep hb6
      have hW6 := below_next hW5 hb6 (Nat.le_refl _)
      clear hb6
      rcases Bool.eq_false_or_eq_true (trOk (-1) xs) with hp1 | hp1
      · rcases Bool.eq_false_or_eq_true (trOk (-1) (shR xs m)) with hp2 | hp2
        · have l1 := (trR_yes hp1).1
          have l2 := (trR_yes hp2).1.trans HL.out
          obtain ⟨ba, ca, rfl, lba, hza⟩ := o_a0.block (by omega)
          obtain ⟨bb, cb, rfl, lbb, hzb⟩ := o_b0.block (by omega)
          have i8 : ((trR (-1) xs).length : Int) = (xs.length : Int) := by omega
          have i9 : ((trR (-1) (shR xs m)).length : Int) = (xs.length : Int) := by omega
          have L1 := Lib.hid l1
          have L2 := Lib.hid l2
          have HZA := Lib.hid hza
          have HZB := Lib.hid hzb
          clear hza hzb l1 l2
          obtain ⟨wL, rfl⟩ : ∃ wL : World, wL = w6 := ⟨_, rfl⟩
          go_wp2_with fail
          go_loopw [14] (fun s wr => ∃ j : Nat, j ≤ xs.length ∧ s = .int .i64 j ∧ ∃ os d, wr = more wL os d) (fun s _ => xs.length - (intOf s).toNat)
          case atStart => exact ⟨0, by omega, rfl, _, _, more_self _⟩
          case round =>
            obtain ⟨j, hj, rfl, os, d, rfl⟩ := hrel
            by_cases hlt : j < xs.length
            · have hpa := HZA.out j (by rw [L1.out]; exact hlt)
              have hpb := HZB.out j (by rw [L2.out]; exact hlt)
              have HT := Lib.hid (fun t ht hx => sh_turn HOK.out hp1 hp2 HK.out j hlt (t := t) ht hx)
              obtain ⟨x, hxk⟩ : ∃ x, (trR (-1) xs).getD j C8.zero = x := ⟨_, rfl⟩
              obtain ⟨y, hyk⟩ : ∃ y, (trR (-1) (shR xs m)).getD j C8.zero = y := ⟨_, rfl⟩
              rw [hxk] at hpa
              rw [hyk] at hpb
              rw [hxk, hyk] at HT
              obtain ⟨m1, hm1⟩ : ∃ m1 : Nat, m1 = j * k := ⟨_, rfl⟩
              have hm1b : m1 ≤ 24 * 24 := by rw [hm1]; exact Nat.mul_le_mul (by omega) (by omega)
              obtain ⟨m2, hm2⟩ : ∃ m2 : Nat, m2 = m1 % xs.length := ⟨_, rfl⟩
              have hm2b : m2 < xs.length := by rw [hm2]; exact Nat.mod_lt _ (by omega)
              obtain ⟨qq, hqq⟩ : ∃ qq : Nat, qq = 24 / xs.length := ⟨_, rfl⟩
              have hqb : qq ≤ 24 := by rw [hqq]; exact Nat.div_le_self _ _
              obtain ⟨t, htt⟩ : ∃ t : Nat, t = m2 * qq := ⟨_, rfl⟩
              have htb : t ≤ 24 * 24 := by rw [htt]; exact Nat.mul_le_mul (by omega) (by omega)
              have f1 : IntKind.i64.wrap ((j : Int) * m) = (m1 : Int) := by rw [HK.out, hm1, Int.natCast_mul]; exact IntWalk.i64_in _ (by rw [← Int.natCast_mul, ← hm1]; omega)
              have f2 : (m1 : Int).tmod (xs.length : Int) = (m2 : Int) := by rw [Int.tmod_eq_emod_of_nonneg (by omega), hm2, Int.natCast_emod]
              have f3 : (m1 : Int) % (xs.length : Int) = (m2 : Int) := by rw [hm2, Int.natCast_emod]
              have f4 : (24 : Int).tdiv (xs.length : Int) = (qq : Int) := by rw [Int.tdiv_eq_ediv_of_nonneg (by omega), hqq]; rfl
              have f5 : (24 : Int) / (xs.length : Int) = (qq : Int) := by rw [hqq]; rfl
              have f6 : IntKind.i64.wrap ((m2 : Int) * (qq : Int)) = (t : Int) := by rw [htt, Int.natCast_mul]; exact IntWalk.i64_in _ (by rw [← Int.natCast_mul, ← htt]; omega)
              have f7 : IntKind.i64.wrap (m2 : Int) = (m2 : Int) := IntWalk.i64_in _ (by omega)
              have f8 : IntKind.i64.wrap (qq : Int) = (qq : Int) := IntWalk.i64_in _ (by omega)
              have HT2 := Lib.hid (show tuOk x (t : Int) = true → C8.tuR x (t : Int) = y from HT.out _ (by rw [htt, hm2, hm1, hqq]))
              obtain ⟨x0, x1, x2, x3, x4, x5, x6, x7⟩ := hpa.cells
              obtain ⟨y0, y1, y2, y3, y4, y5, y6, y7⟩ := hpb.cells
              have i0 : (0 : Int) ≤ (j : Int) := by omega
              have i1 : (j : Int) < (xs.length : Int) := by omega
              have j1 : (j : Int) < ((trR (-1) xs).length : Int) := by omega
              have j2 : (j : Int) < ((trR (-1) (shR xs m)).length : Int) := by omega
              have n3 : ¬ xs.length = 0 := by omega
              have n4 : ¬ (xs.length : Int) = 0 := by omega
              clear hpa hpb hxk hyk HT hm1 hm2 hqq htt
              rcases Bool.eq_false_or_eq_true (tuOk x (t : Int)) with ht | ht
              · have e1 := HT2.out ht
                go_wp2_with fail
                go_region_held3 (fun w' => (w'.cell? ⟨ba, j * 8, none⟩ = some (.int .i64 x.c0) ∧ w'.cell? ⟨ba, j * 8 + 1, none⟩ = some (.int .i64 x.c1) ∧ w'.cell? ⟨ba, j * 8 + 2, none⟩ = some (.int .i64 x.c2) ∧ w'.cell? ⟨ba, j * 8 + 3, none⟩ = some (.int .i64 x.c3) ∧ w'.cell? ⟨ba, j * 8 + 4, none⟩ = some (.int .i64 x.c4) ∧ w'.cell? ⟨ba, j * 8 + 5, none⟩ = some (.int .i64 x.c5) ∧ w'.cell? ⟨ba, j * 8 + 6, none⟩ = some (.int .i64 x.c6) ∧ w'.cell? ⟨ba, j * 8 + 7, none⟩ = some (.int .i64 x.c7))) (simp [go_sem, *])
                  (first | (go_at_call 30; refine (cycTurned_any _ _ _).mono ?_; rintro e w' ⟨rfl, hb⟩; obtain ⟨os, d, rfl⟩ := more_of_below hb; clear hb))
                all_goals
                  go_wp2_with fail
                  go_quiet (fail)
                  go_wp2
                  go_roundw
                  case rel => exact ⟨j + 1, by omega, by go_num, (by refine IsMore.drewN ?_ _; repeat' (first | (with_reducible exact IsMore.refl _) | (with_reducible refine IsMore.alloc ?_ _) | (with_reducible refine IsMore.more ?_ _ _) | (with_reducible refine IsMore.drew ?_)) : IsMore _ _)⟩
                  case measure => simp [intOf]; omega
              · go_wp2_with fail
                go_region_held3 (fun w' => (w'.cell? ⟨ba, j * 8, none⟩ = some (.int .i64 x.c0) ∧ w'.cell? ⟨ba, j * 8 + 1, none⟩ = some (.int .i64 x.c1) ∧ w'.cell? ⟨ba, j * 8 + 2, none⟩ = some (.int .i64 x.c2) ∧ w'.cell? ⟨ba, j * 8 + 3, none⟩ = some (.int .i64 x.c3) ∧ w'.cell? ⟨ba, j * 8 + 4, none⟩ = some (.int .i64 x.c4) ∧ w'.cell? ⟨ba, j * 8 + 5, none⟩ = some (.int .i64 x.c5) ∧ w'.cell? ⟨ba, j * 8 + 6, none⟩ = some (.int .i64 x.c6) ∧ w'.cell? ⟨ba, j * 8 + 7, none⟩ = some (.int .i64 x.c7))) (simp [go_sem, *])
                  (first | (go_at_call 30; refine (cycTurned_any _ _ _).mono ?_; rintro e w' ⟨rfl, hb⟩; obtain ⟨os, d, rfl⟩ := more_of_below hb; clear hb))
                all_goals
                  go_wp2_with fail
                  go_quiet (fail)
                  go_wp2
                  go_roundw
                  case rel => exact ⟨j + 1, by omega, by go_num, (by refine IsMore.drewN ?_ _; repeat' (first | (with_reducible exact IsMore.refl _) | (with_reducible refine IsMore.alloc ?_ _) | (with_reducible refine IsMore.more ?_ _ _) | (with_reducible refine IsMore.drew ?_)) : IsMore _ _)⟩
                  case measure => simp [intOf]; omega
            · obtain rfl : j = xs.length := by omega
              go_wp2
              go_ret
              exact ⟨rfl, below_more hW6 hW6.size _ _⟩
        · go_wp2_with fail
          go_rounds 1
          all_goals
            go_ret
            exact ⟨rfl, hW6⟩
      · go_wp2_with fail
        go_rounds 1
        all_goals
          go_ret
          exact ⟨rfl, hW6⟩
    · go_wp2_with fail
      refine (sameCycs_own o_g0 o_r0 hr).mono ?_
      rintro e w4 ⟨rfl, hb4⟩
      replace o_va := o_va.keep hb4
      replace o_g0 := o_g0.keep hb4
      replace o_r0 := o_r0.keep hb4
      have hW4 := below_next hW3 hb4 (Nat.le_refl _)
      clear hb4
      go_wp2_with fail
      refine (sameCycs_own o_g0 o_r0 hr).mono ?_
      rintro e w5 ⟨rfl, hb5⟩
      replace o_va := o_va.keep hb5
      replace o_g0 := o_g0.keep hb5
      replace o_r0 := o_r0.keep hb5
      have hW5 := below_next hW4 hb5 (Nat.le_refl _)
      clear hb5
      go_wp2
      go_ret
      exact ⟨rfl, hW5⟩
  · go_enter Try.func7, Try.ntmps7
    go_wp2
    go_ret
    exact ⟨rfl, by repeat' (first | (with_reducible exact Below.refl _ _) | (with_reducible assumption) | (with_reducible refine Below.alloc ?_ ?_ _) | (with_reducible refine below_more ?_ ?_ _ _) | (with_reducible refine below_rd ?_ ?_ _ _) | (with_reducible refine Below.drew ?_) | (with_reducible refine Below.setCell ?_ ?_ _) | go_size)⟩

set_option maxRecDepth 100000 in
theorem fnShift_lifted (os : Os) (started : os.Started) (H : Type) (enc : TypeId × Value → H) :
    ReturnsInHanded {} Try.checked os 7 .any (Rows.fnShiftSpec.pre6 enc Try.prog Try.f7 Rows.fnShiftRow.domain false) (Rows.fnShiftSpec.post enc Try.prog Try.f7 false true false false) := by
  refine returnsInHanded_of_change (C := Try.checked) own started (by kernel_rfl) Try.func7
    (ChangeSpec.witness6 (enc := enc) (C := Try.checked) false ⟨#[], #[.slice none 0 0], []⟩ 8 (by kernel_rfl) (by kernel_rfl) (by kernel_rfl) (by kernel_rfl)) ?_
  intro W base args ds gs before hval0 hW hcnd _
  have hval : ∀ (j : Nat) t v, Try.f7.params[j]? = some t → args[j]? = some v → Value.okWide Try.prog W .any base t v := hval0
  have hW' := hW
  obtain ⟨p, q, hA0, hV, rfl, hfz, hnd⟩ := hW
  have hA : DataW.TrodAll enc Try.prog W 0 (fun _ => true) true Try.f7.params.toList args.toList ds p := hA0
  rw [Try.params7] at hA hval
  obtain ⟨v0, vs0, d0, ds0, p0, q0, hargs, rfl, rfl, h0, r0⟩ := trodAll_cons hA
  obtain ⟨rfl, rfl, rfl⟩ := trodAll_nil r0
  obtain rfl : args = #[v0] := by cases args; simp_all
  obtain ⟨rfl, rfl⟩ := trodVars_none hV
  obtain ⟨a0, len0, cap0, rfl⟩ := okWide_slice Try.underlying33 (hval 0 33 v0 rfl rfl)
  have k0 := h0
  have lt0 : ∀ x ∈ p0, x.block < W.heap.size := by obtain ⟨m, hm⟩ := k0; exact DataW.trod_lt m _ _ _ hm
  obtain ⟨hv, hc⟩ : HasB W W.heap.size a0 len0 ∧ len0 ≤ cap0 := by
    obtain ⟨fuel, hf⟩ := h0
    rcases open_ints Try.underlying33 Try.underlying5 (by kernel_rfl) hf with ⟨hcs, _⟩ | ⟨x, l, c, zs, hcs, _, hl, hm, hz, _, hcell, hwz⟩
    · simp [Value.cells] at hcs
      obtain ⟨rfl, rfl, rfl⟩ := hcs
      exact ⟨Or.inl rfl, Nat.le_refl _⟩
    · simp [Value.cells] at hcs
      obtain ⟨rfl, rfl, rfl⟩ := hcs
      exact ⟨hasB_of_cells (by have : zs.length = cap0 := by simpa using hz
                               omega) hcell hwz, hl⟩
  clear hA0 hval0
  refine (fnShift_any a0 len0 cap0 W hv hc).mono fun e W' ⟨he, bel⟩ => ?_
  subst he
  exact ⟨_, rfl, _, _, _, [], _, [], hW', trodAll_mk1 (shut_bool Try.underlying4 _), (trodAll_cons_mk (Below.trod laidOut (by kernel_rfl) (of_decide_eq_true (by kernel_rfl)) k0 bel lt0) trodAll_mk0), rfl, bel.frame _, fun h => by cases h⟩

theorem fnShift_holds : Rows.FnShiftSaid :=
  OpenClaim.holds_of_wide 7 Try.f7 rfl rfl rfl rfl rfl rfl rfl ⟨rfl, rfl, rfl, rfl, rfl⟩ rfl rfl rfl rfl rfl (by kernel_rfl) Try.func7 (by kernel_rfl)
    (of_decide_eq_true (by kernel_rfl)) (by unfold Func.isWrapper; first | (rw [if_pos (by decide +kernel)]; kernel_rfl) | (rw [if_neg (by decide +kernel)]; exact ⟨rfl, rfl⟩))
    (fun os started H enc _ => fnShift_lifted os started H enc)
#print axioms fnShift_holds

end Go.Proofs.Ytelgbmebjickeaa
