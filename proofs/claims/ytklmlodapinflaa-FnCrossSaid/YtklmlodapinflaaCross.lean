/- laws.FnCross returns true, whatever the code. Condition: none. -/
import Derived.Test.YtklmlodapinflaaDrawG
import Derived.Test.YtklmlodapinflaaPolyC
import Derived.Test.YtklmlodapinflaaSurdEq
import Derived.Test.YtklmlodapinflaaLawA
import Derived.Test.YtklmlodapinflaaDeep
namespace Go.Proofs.Ytklmlodapinflaa
open Go.ChangeShapes Go.WideShapes Go.ChangeAt Go.RowKit Go.Joins

theorem cross_facts {a b : C8} (h : pcOk a b = true) : pcR a b = crs a b ∧ S4.lim 10000000 (crs a b) ∧ pcOk b a = true ∧ pcR b a = (crs a b).neg ∧ pcOk a a = true ∧ pcR a a = S4.zero := by
  have h' := h
  simp only [pcOk, Bool.and_eq_true] at h'
  obtain ⟨⟨h1, h2⟩, h3⟩ := h'
  have e1 : pcOk b a = true := by simp only [pcOk, Bool.and_eq_true, crs_swap a b]; exact ⟨⟨h2, h1⟩, okT_neg h3⟩
  have e2 : pcOk a a = true := by simp only [pcOk, Bool.and_eq_true, crs_self]; exact ⟨⟨h1, h1⟩, by decide⟩
  exact ⟨by rw [pcR, if_pos h], okT_lim.1 h3, e1, by rw [pcR, if_pos e1, crs_swap], e2, by rw [pcR, if_pos e2, crs_self]⟩

set_option maxRecDepth 100000 in
set_option maxHeartbeats 4000000 in
theorem fnCross_any (a : Option Addr) (len cap : Nat) (W : World) (hv : HasB W W.heap.size a len) (hc : len ≤ cap) :
    Calls Try.prog 5 #[.slice a len cap] W fun e w' => e = .returned (.bool true) ∧ Below W.heap.size W w' := by
  by_cases hl : len ≤ 1048576
  · go_enter Try.func5, Try.ntmps5
    go_wp2_with (go_at_call 23; refine (drawPolyCross_any _ _ _ W.heap.size _ W hv (by repeat' (first | (with_reducible assumption) | (with_reducible exact Below.refl _ _) | (with_reducible refine Below.alloc ?_ ?_ _) | (with_reducible refine below_more ?_ ?_ _ _) | (with_reducible refine below_rd ?_ ?_ _ _) | (with_reducible refine Below.drew ?_) | (first | omega | (simp; omega) | (simp; done)))) (by (first | omega | (simp; omega) | (simp; done))) hl hc).mono ?_; rintro e w' ⟨⟨c, d, rfl⟩, hb⟩; obtain ⟨os, dd, rfl⟩ := more_of_below hb; clear hb)
    rcases Bool.eq_false_or_eq_true (pcOk c d) with h | h
    · obtain ⟨f1, ⟨⟨b1, b2⟩, ⟨b3, b4⟩, ⟨b5, b6⟩, ⟨b7, b8⟩⟩, f2, f3, f4, f5⟩ := cross_facts h
      have n1 : (pcR d c).a = -(crs c d).a := by rw [f3]; rfl
      have n2 : (pcR d c).b = -(crs c d).b := by rw [f3]; rfl
      have n3 : (pcR d c).c = -(crs c d).c := by rw [f3]; rfl
      have n4 : (pcR d c).d = -(crs c d).d := by rw [f3]; rfl
      have m1 : (pcR c c).a = 0 := by rw [f5]; rfl
      have m2 : (pcR c c).b = 0 := by rw [f5]; rfl
      have m3 : (pcR c c).c = 0 := by rw [f5]; rfl
      have m4 : (pcR c c).d = 0 := by rw [f5]; rfl
      clear f3 f5
      go_wp2_with (first
        | (go_at_call 19; refine (specPolyCross_any _ _ _).mono ?_; rintro e w' ⟨rfl, hb⟩; obtain ⟨os, d, rfl⟩ := more_of_below hb; clear hb)
        | (go_at_call 21; refine (polyCross_any _ _ _).mono ?_; rintro e w' ⟨rfl, hb⟩; obtain ⟨os, d, rfl⟩ := more_of_below hb; clear hb))
      go_ret
      exact ⟨rfl, by repeat' (first | (with_reducible exact Below.refl _ _) | (with_reducible assumption) | (with_reducible refine Below.alloc ?_ ?_ _) | (with_reducible refine below_more ?_ ?_ _ _) | (with_reducible refine below_rd ?_ ?_ _ _) | (with_reducible refine Below.drew ?_) | (with_reducible refine Below.setCell ?_ ?_ _) | go_size)⟩
    · go_wp2_with (first
        | (go_at_call 19; refine (specPolyCross_any _ _ _).mono ?_; rintro e w' ⟨rfl, hb⟩; obtain ⟨os, d, rfl⟩ := more_of_below hb; clear hb)
        | (go_at_call 21; refine (polyCross_any _ _ _).mono ?_; rintro e w' ⟨rfl, hb⟩; obtain ⟨os, d, rfl⟩ := more_of_below hb; clear hb))
      go_ret
      exact ⟨rfl, by repeat' (first | (with_reducible exact Below.refl _ _) | (with_reducible assumption) | (with_reducible refine Below.alloc ?_ ?_ _) | (with_reducible refine below_more ?_ ?_ _ _) | (with_reducible refine below_rd ?_ ?_ _ _) | (with_reducible refine Below.drew ?_) | (with_reducible refine Below.setCell ?_ ?_ _) | go_size)⟩
  · go_enter Try.func5, Try.ntmps5
    go_wp2
    go_ret
    exact ⟨rfl, by repeat' (first | (with_reducible exact Below.refl _ _) | (with_reducible assumption) | (with_reducible refine Below.alloc ?_ ?_ _) | (with_reducible refine below_more ?_ ?_ _ _) | (with_reducible refine below_rd ?_ ?_ _ _) | (with_reducible refine Below.drew ?_) | (with_reducible refine Below.setCell ?_ ?_ _) | go_size)⟩

set_option maxRecDepth 100000 in
theorem fnCross_lifted (os : Os) (started : os.Started) (H : Type) (enc : TypeId × Value → H) :
    ReturnsInHanded {} Try.checked os 5 .any (Rows.fnCrossSpec.pre6 enc Try.prog Try.f5 Rows.fnCrossRow.domain false) (Rows.fnCrossSpec.post enc Try.prog Try.f5 false true false false) := by
  refine returnsInHanded_of_change (C := Try.checked) own started (by kernel_rfl) Try.func5
    (ChangeSpec.witness6 (enc := enc) (C := Try.checked) false ⟨#[], #[.slice none 0 0], []⟩ 8 (by kernel_rfl) (by kernel_rfl) (by kernel_rfl) (by kernel_rfl)) ?_
  intro W base args ds gs before hval0 hW hcnd _
  have hval : ∀ (j : Nat) t v, Try.f5.params[j]? = some t → args[j]? = some v → Value.okWide Try.prog W .any base t v := hval0
  have hW' := hW
  obtain ⟨p, q, hA0, hV, rfl, hfz, hnd⟩ := hW
  have hA : DataW.TrodAll enc Try.prog W 0 (fun _ => true) true Try.f5.params.toList args.toList ds p := hA0
  rw [Try.params5] at hA hval
  obtain ⟨v0, vs0, d0, ds0, p0, q0, hargs, rfl, rfl, h0, r0⟩ := trodAll_cons hA
  obtain ⟨rfl, rfl, rfl⟩ := trodAll_nil r0
  obtain rfl : args = #[v0] := by cases args; simp_all
  obtain ⟨rfl, rfl⟩ := trodVars_none hV
  obtain ⟨a0, len0, cap0, rfl⟩ := okWide_slice Try.underlying22 (hval 0 22 v0 rfl rfl)
  have k0 := h0
  have lt0 : ∀ x ∈ p0, x.block < W.heap.size := by obtain ⟨m, hm⟩ := k0; exact DataW.trod_lt m _ _ _ hm
  obtain ⟨hv, hc⟩ : HasB W W.heap.size a0 len0 ∧ len0 ≤ cap0 := by
    obtain ⟨fuel, hf⟩ := h0
    rcases open_ints Try.underlying22 Try.underlying5 (by kernel_rfl) hf with ⟨hcs, _⟩ | ⟨x, l, c, zs, hcs, _, hl, hm, hz, _, hcell, hwz⟩
    · simp [Value.cells] at hcs
      obtain ⟨rfl, rfl, rfl⟩ := hcs
      exact ⟨Or.inl rfl, Nat.le_refl _⟩
    · simp [Value.cells] at hcs
      obtain ⟨rfl, rfl, rfl⟩ := hcs
      exact ⟨hasB_of_cells (by have : zs.length = cap0 := by simpa using hz
                               omega) hcell hwz, hl⟩
  clear hA0 hval0
  refine (fnCross_any a0 len0 cap0 W hv hc).mono fun e W' ⟨he, bel⟩ => ?_
  subst he
  exact ⟨_, rfl, _, _, _, [], _, [], hW', trodAll_mk1 (shut_bool Try.underlying4 _), (trodAll_cons_mk (Below.trod laidOut (by kernel_rfl) (of_decide_eq_true (by kernel_rfl)) k0 bel lt0) trodAll_mk0), rfl, bel.frame _, fun h => by cases h⟩

theorem fnCross_holds : Rows.FnCrossSaid :=
  OpenClaim.holds_of_wide 5 Try.f5 rfl rfl rfl rfl rfl rfl rfl ⟨rfl, rfl, rfl, rfl, rfl⟩ rfl rfl rfl rfl rfl (by kernel_rfl) Try.func5 (by kernel_rfl)
    (of_decide_eq_true (by kernel_rfl)) (by unfold Func.isWrapper; first | (rw [if_pos (by decide +kernel)]; kernel_rfl) | (rw [if_neg (by decide +kernel)]; exact ⟨rfl, rfl⟩))
    (fun os started H enc _ => fnCross_lifted os started H enc)
#print axioms fnCross_holds

end Go.Proofs.Ytklmlodapinflaa
