/- laws.FnExactPolyArea returns true, whatever it is called with. Condition: none. -/
import Derived.Test.YtklmlodapinflaaPolyB
import Derived.Test.YtklmlodapinflaaLawR
import Derived.Test.YtklmlodapinflaaLawS
namespace Go.Proofs.Ytklmlodapinflaa
open Go.ChangeShapes Go.WideShapes Go.ChangeAt Go.RowKit Go.Joins

set_option maxRecDepth 100000 in
set_option maxHeartbeats 4000000 in
theorem fnExactPolyArea_any (a : Option Addr) (cap : Nat) (xs : List C8) (W : World) (hx : HasC W W.heap.size a xs) (hc : xs.length ≤ cap) (hm : xs.length ≤ 9223372036854775807) :
    Calls Try.prog 9 #[.slice a xs.length cap] W fun e w' => e = .returned (.bool true) ∧ Below W.heap.size W w' := by
  by_cases hn : xs.length ≤ 1048576
  · have HX := Lib.hid hx
    clear hx
    go_enter Try.func9, Try.ntmps9
    go_wp2_with fail
    refine (szCycS_any _ _ _ _ (by omega) (by omega) hm _).mono ?_
    rw [if_neg (by omega)]
    rintro e w' ⟨rfl, rfl⟩
    go_wp2_with fail
    refine (toCycS_any a cap xs _ W W.heap.size HX.out (by repeat' (first | (with_reducible assumption) | (with_reducible exact Below.refl _ _) | (with_reducible refine Below.alloc ?_ ?_ _) | (with_reducible refine below_more ?_ ?_ _ _) | (with_reducible refine below_rd ?_ ?_ _ _) | (with_reducible refine Below.drew ?_) | (first | omega | (simp; omega) | (simp; done)))) (by (first | omega | (simp; omega) | (simp; done))) hn hc).mono ?_
    rintro e w' ⟨rfl, os1, d1, rfl⟩
    go_wp2_with fail
    refine (specPolyArea_any _ _ xs _ (HasP.made' (by (first | omega | (simp; omega) | (simp; done)))) hn).mono ?_
    rintro e w' ⟨rfl, hb⟩; obtain ⟨os2, d2, rfl⟩ := more_of_below hb; clear hb
    go_wp2_with fail
    refine (toCycS_any a cap xs _ W W.heap.size HX.out (by repeat' (first | (with_reducible assumption) | (with_reducible exact Below.refl _ _) | (with_reducible refine Below.alloc ?_ ?_ _) | (with_reducible refine below_more ?_ ?_ _ _) | (with_reducible refine below_rd ?_ ?_ _ _) | (with_reducible refine Below.drew ?_) | (first | omega | (simp; omega) | (simp; done)))) (by (first | omega | (simp; omega) | (simp; done))) hn hc).mono ?_
    rintro e w' ⟨rfl, os3, d3, rfl⟩
    go_wp2_with fail
    refine (polyArea_any _ _ xs _ (HasP.made' (by (first | omega | (simp; omega) | (simp; done)))) hn).mono ?_
    rintro e w' ⟨rfl, hb⟩; obtain ⟨os4, d4, rfl⟩ := more_of_below hb; clear hb
    cases hok : paOk xs
    all_goals
      have HOK := Lib.hid hok
      clear hok
      go_wp2_with fail
      refine (eqSurd_same _ _ _ _ _).mono ?_
      rintro e w' ⟨rfl, hb⟩; obtain ⟨os5, d5, rfl⟩ := more_of_below hb; clear hb
      go_wp2_with fail
      refine (toCycS_any a cap xs _ W W.heap.size HX.out (by repeat' (first | (with_reducible assumption) | (with_reducible exact Below.refl _ _) | (with_reducible refine Below.alloc ?_ ?_ _) | (with_reducible refine below_more ?_ ?_ _ _) | (with_reducible refine below_rd ?_ ?_ _ _) | (with_reducible refine Below.drew ?_) | (first | omega | (simp; omega) | (simp; done)))) (by (first | omega | (simp; omega) | (simp; done))) hn hc).mono ?_
      rintro e w' ⟨rfl, os6, d6, rfl⟩
      go_wp2_with fail
      refine (eqCycS_same _ _ _ _ xs _ (HasP.more (HasP.alloc (HasP.more (HasP.alloc (HasP.made' (by (first | omega | (simp; omega) | (simp; done)))) _) _ _) _) _ _) (HasP.made' (by (first | omega | (simp; omega) | (simp; done)))) hn).mono ?_
      rintro e w' ⟨rfl, hb⟩; obtain ⟨os7, d7, rfl⟩ := more_of_below hb; clear hb
      go_wp2
      go_ret
      exact ⟨rfl, by repeat' (first | (with_reducible exact Below.refl _ _) | (with_reducible assumption) | (with_reducible refine Below.alloc ?_ ?_ _) | (with_reducible refine below_more ?_ ?_ _ _) | (with_reducible refine below_rd ?_ ?_ _ _) | (with_reducible refine Below.drew ?_) | (with_reducible refine Below.setCell ?_ ?_ _) | go_size)⟩
  · go_enter Try.func9, Try.ntmps9
    go_wp2_with fail
    refine (szCycS_any _ _ _ _ (by omega) (by omega) hm _).mono ?_
    rw [if_pos (by omega)]
    rintro e w' ⟨rfl, rfl⟩
    go_wp2
    go_ret
    exact ⟨rfl, by repeat' (first | (with_reducible exact Below.refl _ _) | (with_reducible assumption) | (with_reducible refine Below.alloc ?_ ?_ _) | (with_reducible refine below_more ?_ ?_ _ _) | (with_reducible refine below_rd ?_ ?_ _ _) | (with_reducible refine Below.drew ?_) | (with_reducible refine Below.setCell ?_ ?_ _) | go_size)⟩
set_option maxRecDepth 100000 in
theorem fnExactPolyArea_lifted (os : Os) (started : os.Started) (H : Type) (enc : TypeId × Value → H) :
    ReturnsInHanded {} Try.checked os 9 .any (Rows.fnExactPolyAreaSpec.pre6 enc Try.prog Try.f9 Rows.fnExactPolyAreaRow.domain false) (Rows.fnExactPolyAreaSpec.post enc Try.prog Try.f9 false true false false) := by
  refine returnsInHanded_of_change (C := Try.checked) own started (by kernel_rfl) Try.func9
    (ChangeSpec.witness6 (enc := enc) (C := Try.checked) false ⟨#[], #[.slice none 0 0], []⟩ 8 (by kernel_rfl) (by kernel_rfl) (by kernel_rfl) (by kernel_rfl)) ?_
  intro W base args ds gs before hval0 hW hcnd _
  have hval : ∀ (j : Nat) t v, Try.f9.params[j]? = some t → args[j]? = some v → Value.okWide Try.prog W .any base t v := hval0
  have hW' := hW
  obtain ⟨p, q, hA0, hV, rfl, hfz, hnd⟩ := hW
  have hA : DataW.TrodAll enc Try.prog W 0 (fun _ => true) true Try.f9.params.toList args.toList ds p := hA0
  rw [Try.params9] at hA hval
  obtain ⟨v0, vs0, d0, ds0, p0, q0, hargs, rfl, rfl, h0, r0⟩ := trodAll_cons hA
  obtain ⟨rfl, rfl, rfl⟩ := trodAll_nil r0
  obtain rfl : args = #[v0] := by cases args; simp_all
  obtain ⟨rfl, rfl⟩ := trodVars_none hV
  have k0 := h0
  have lt0 : ∀ x ∈ p0, x.block < W.heap.size := by obtain ⟨m, hm⟩ := k0; exact DataW.trod_lt m _ _ _ hm
  obtain ⟨a, acap, axs, rfl, ahc, ahx, ahm⟩ : ∃ (a : Option Addr) (cap : Nat) (xs : List C8), v0 = .slice a xs.length cap ∧ xs.length ≤ cap ∧ HasC W W.heap.size a xs ∧ xs.length ≤ 9223372036854775807 := open_cycs (hval 0 46 v0 rfl rfl) h0
  clear hA0 hval0
  refine (fnExactPolyArea_any a acap axs W ahx ahc ahm).mono fun e W' ⟨he, bel⟩ => ?_
  subst he
  exact ⟨_, rfl, _, _, _, [], _, [], hW', trodAll_mk1 (shut_bool Try.underlying4 _), (trodAll_cons_mk (Below.trod laidOut (by kernel_rfl) (of_decide_eq_true (by kernel_rfl)) k0 bel lt0) trodAll_mk0), rfl, bel.frame _, fun h => by cases h⟩

theorem fnExactPolyArea_holds : Rows.FnExactPolyAreaSaid :=
  OpenClaim.holds_of_wide 9 Try.f9 rfl rfl rfl rfl rfl rfl rfl ⟨rfl, rfl, rfl, rfl, rfl⟩ rfl rfl rfl rfl rfl (by kernel_rfl) Try.func9 (by kernel_rfl)
    (of_decide_eq_true (by kernel_rfl)) (by unfold Func.isWrapper; first | (rw [if_pos (by decide +kernel)]; kernel_rfl) | (rw [if_neg (by decide +kernel)]; exact ⟨rfl, rfl⟩))
    (fun os started H enc _ => fnExactPolyArea_lifted os started H enc)
#print axioms fnExactPolyArea_holds
end Go.Proofs.Ytklmlodapinflaa
