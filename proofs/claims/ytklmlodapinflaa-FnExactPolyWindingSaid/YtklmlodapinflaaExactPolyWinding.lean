/- laws.FnExactPolyWinding returns true, whatever it is called with. Condition: none. -/
import Derived.Test.YtklmlodapinflaaPolyY
import Derived.Test.YtklmlodapinflaaLawR
import Derived.Test.YtklmlodapinflaaLawS
import Derived.Test.YtklmlodapinflaaLawC
import Derived.Deep.RegionHeld3
namespace Go.Proofs.Ytklmlodapinflaa
open Go.ChangeShapes Go.WideShapes Go.ChangeAt Go.RowKit Go.Joins

set_option maxRecDepth 100000 in
set_option maxHeartbeats 8000000 in
theorem fnExactPolyWinding_any (a : Option Addr) (cap : Nat) (xs : List C8) (c : C8) (W : World) (hx : HasC W W.heap.size a xs) (hc : xs.length ≤ cap) (hm : xs.length ≤ 9223372036854775807) :
    Calls Try.prog 11 #[.slice a xs.length cap, cv c] W fun e w' => e = .returned (.bool true) ∧ Below W.heap.size W w' := by
  by_cases hn : xs.length ≤ 1048576
  · have HX := Lib.hid hx
    clear hx
    rcases Bool.eq_false_or_eq_true (pwOk xs c) with hv | hv
    all_goals
      have HV := Lib.hid hv
      clear hv
    all_goals
      go_enter Try.func11, Try.ntmps11
      go_wp2_with fail
      refine (szCycS_any _ _ _ _ (by omega) (by omega) hm _).mono ?_
      rw [if_neg (by omega)]
      rintro e w' ⟨rfl, rfl⟩
      go_wp2_with fail
      go_region_held3 (fun w' => w'.cell? ⟨W.heap.size, 0, none⟩ = some (.int .i64 c.c0) ∧ w'.cell? ⟨W.heap.size, 1, none⟩ = some (.int .i64 c.c1) ∧ w'.cell? ⟨W.heap.size, 2, none⟩ = some (.int .i64 c.c2) ∧ w'.cell? ⟨W.heap.size, 3, none⟩ = some (.int .i64 c.c3) ∧ w'.cell? ⟨W.heap.size, 4, none⟩ = some (.int .i64 c.c4) ∧ w'.cell? ⟨W.heap.size, 5, none⟩ = some (.int .i64 c.c5) ∧ w'.cell? ⟨W.heap.size, 6, none⟩ = some (.int .i64 c.c6) ∧ w'.cell? ⟨W.heap.size, 7, none⟩ = some (.int .i64 c.c7)) (simp [go_sem, *])
        (first
          | (go_at_call 34; refine (toCycS_any a cap xs _ W W.heap.size HX.out (by repeat' (first | (with_reducible assumption) | (with_reducible exact Below.refl _ _) | (with_reducible refine Below.alloc ?_ ?_ _) | (with_reducible refine below_more ?_ ?_ _ _) | (with_reducible refine below_rd ?_ ?_ _ _) | (with_reducible refine Below.drew ?_) | (first | omega | (simp; omega) | (simp; done)))) (by (first | omega | (simp; omega) | (simp; done))) hn hc).mono ?_; rintro e w' ⟨rfl, os1, d1, rfl⟩)
          | (go_at_call 20; refine (toCyc_any _ _).mono ?_; rintro e w' ⟨rfl, hb⟩; obtain ⟨os, d, rfl⟩ := more_of_below hb; clear hb)
          | (go_at_call 39; refine (specPolyWinding_any _ _ xs c _ (HasP.made' (by (first | omega | (simp; omega) | (simp; done)))) hn).mono ?_; rw [HV.out]; rintro e w' ⟨rfl, hb⟩; obtain ⟨os, d, rfl⟩ := more_of_below hb; clear hb))
      all_goals
        go_wp2_with (first
          | (go_at_call 34; refine (toCycS_any a cap xs _ W W.heap.size HX.out (by repeat' (first | (with_reducible assumption) | (with_reducible exact Below.refl _ _) | (with_reducible refine Below.alloc ?_ ?_ _) | (with_reducible refine below_more ?_ ?_ _ _) | (with_reducible refine below_rd ?_ ?_ _ _) | (with_reducible refine Below.drew ?_) | (first | omega | (simp; omega) | (simp; done)))) (by (first | omega | (simp; omega) | (simp; done))) hn hc).mono ?_; rintro e w' ⟨rfl, os1, d1, rfl⟩)
          | (go_at_call 20; refine (toCyc_any _ _).mono ?_; rintro e w' ⟨rfl, hb⟩; obtain ⟨os, d, rfl⟩ := more_of_below hb; clear hb)
          | (go_at_call 40; refine (polyWinding_any _ _ xs c _ (HasP.made' (by (first | omega | (simp; omega) | (simp; done)))) hn).mono ?_; rw [HV.out]; rintro e w' ⟨rfl, hb⟩; obtain ⟨os, d, rfl⟩ := more_of_below hb; clear hb)
          | (go_at_call 36; refine (eqCycS_same _ _ _ _ xs _ (HasP.more (HasP.alloc (HasP.made' (by (first | omega | (simp; omega) | (simp; done)))) _) _ _) (HasP.made' (by (first | omega | (simp; omega) | (simp; done)))) hn).mono ?_; rintro e w' ⟨rfl, hb⟩; obtain ⟨os, d, rfl⟩ := more_of_below hb; clear hb))
        go_ret
        exact ⟨rfl, by repeat' (first | (with_reducible exact Below.refl _ _) | (with_reducible assumption) | (with_reducible refine Below.alloc ?_ ?_ _) | (with_reducible refine below_more ?_ ?_ _ _) | (with_reducible refine below_rd ?_ ?_ _ _) | (with_reducible refine Below.drew ?_) | (with_reducible refine Below.setCell ?_ ?_ _) | go_size)⟩
  · go_enter Try.func11, Try.ntmps11
    go_wp2_with fail
    refine (szCycS_any _ _ _ _ (by omega) (by omega) hm _).mono ?_
    rw [if_pos (by omega)]
    rintro e w' ⟨rfl, rfl⟩
    go_wp2
    go_ret
    exact ⟨rfl, by repeat' (first | (with_reducible exact Below.refl _ _) | (with_reducible assumption) | (with_reducible refine Below.alloc ?_ ?_ _) | (with_reducible refine below_more ?_ ?_ _ _) | (with_reducible refine below_rd ?_ ?_ _ _) | (with_reducible refine Below.drew ?_) | (with_reducible refine Below.setCell ?_ ?_ _) | go_size)⟩
set_option maxRecDepth 100000 in
theorem fnExactPolyWinding_lifted (os : Os) (started : os.Started) (H : Type) (enc : TypeId × Value → H) :
    ReturnsInHanded {} Try.checked os 11 .any (Rows.fnExactPolyWindingSpec.pre6 enc Try.prog Try.f11 Rows.fnExactPolyWindingRow.domain false) (Rows.fnExactPolyWindingSpec.post enc Try.prog Try.f11 false true false false) := by
  refine returnsInHanded_of_change (C := Try.checked) own started (by kernel_rfl) Try.func11
    (ChangeSpec.witness6 (enc := enc) (C := Try.checked) false ⟨#[], #[.slice none 0 0, cv C8.zero], []⟩ 8 (by kernel_rfl) (by kernel_rfl) (by kernel_rfl) (by kernel_rfl)) ?_
  intro W base args ds gs before hval0 hW hcnd _
  have hval : ∀ (j : Nat) t v, Try.f11.params[j]? = some t → args[j]? = some v → Value.okWide Try.prog W .any base t v := hval0
  have hW' := hW
  obtain ⟨p, q, hA0, hV, rfl, hfz, hnd⟩ := hW
  have hA : DataW.TrodAll enc Try.prog W 0 (fun _ => true) true Try.f11.params.toList args.toList ds p := hA0
  rw [Try.params11] at hA hval
  obtain ⟨v0, vs0, d0, ds0, p0, q0, hargs, rfl, rfl, h0, r0⟩ := trodAll_cons hA
  obtain ⟨v1, vs1, d1, ds1, p1, q1, rfl, rfl, rfl, h1, r1⟩ := trodAll_cons r0
  obtain ⟨rfl, rfl, rfl⟩ := trodAll_nil r1
  obtain rfl : args = #[v0, v1] := by cases args; simp_all
  obtain ⟨rfl, rfl⟩ := trodVars_none hV
  have k0 := h0
  have lt0 : ∀ x ∈ p0, x.block < W.heap.size := by obtain ⟨m, hm⟩ := k0; exact DataW.trod_lt m _ _ _ hm
  have k1 := h1
  have lt1 : ∀ x ∈ p1, x.block < W.heap.size := by obtain ⟨m, hm⟩ := k1; exact DataW.trod_lt m _ _ _ hm
  obtain ⟨a, acap, axs, rfl, ahc, ahx, ahm⟩ : ∃ (a : Option Addr) (cap : Nat) (xs : List C8), v0 = .slice a xs.length cap ∧ xs.length ≤ cap ∧ HasC W W.heap.size a xs ∧ xs.length ≤ 9223372036854775807 := open_cycs (hval 0 46 v0 rfl rfl) h0
  obtain ⟨b, rfl⟩ : ∃ x, v1 = cv x := open_cyc (hval 1 35 v1 rfl rfl) h1
  clear hA0 hval0
  refine (fnExactPolyWinding_any a acap axs b W ahx ahc ahm).mono fun e W' ⟨he, bel⟩ => ?_
  subst he
  exact ⟨_, rfl, _, _, _, [], _, [], hW', trodAll_mk1 (shut_bool Try.underlying4 _), (trodAll_cons_mk (Below.trod laidOut (by kernel_rfl) (of_decide_eq_true (by kernel_rfl)) k0 bel lt0) (trodAll_cons_mk (Below.trod laidOut (by kernel_rfl) (of_decide_eq_true (by kernel_rfl)) k1 bel lt1) trodAll_mk0)), rfl, bel.frame _, fun h => by cases h⟩

theorem fnExactPolyWinding_holds : Rows.FnExactPolyWindingSaid :=
  OpenClaim.holds_of_wide 11 Try.f11 rfl rfl rfl rfl rfl rfl rfl ⟨rfl, rfl, rfl, rfl, rfl⟩ rfl rfl rfl rfl rfl (by kernel_rfl) Try.func11 (by kernel_rfl)
    (of_decide_eq_true (by kernel_rfl)) (by unfold Func.isWrapper; first | (rw [if_pos (by decide +kernel)]; kernel_rfl) | (rw [if_neg (by decide +kernel)]; exact ⟨rfl, rfl⟩))
    (fun os started H enc _ => fnExactPolyWinding_lifted os started H enc)
#print axioms fnExactPolyWinding_holds
end Go.Proofs.Ytklmlodapinflaa
