/- laws.FnNorm returns true, whatever the code. Condition: none. -/
import Derived.Test.YtklmlodapinflaaDrawG
import Derived.Test.YtklmlodapinflaaSurdH
import Derived.Test.YtklmlodapinflaaSignY
import Derived.Test.YtklmlodapinflaaSurdEq
import Derived.Test.YtklmlodapinflaaLawA
import Derived.Test.YtklmlodapinflaaDeep
namespace Go.Proofs.Ytklmlodapinflaa
open Go.ChangeShapes Go.WideShapes Go.ChangeAt Go.RowKit Go.Joins

theorem norm_facts {c : C8} (h : nmOk c = true) : c.nmR = c.nrm ∧ okS c.nrm.a c.nrm.b c.nrm.c c.nrm.d = true ∧ sgS c.nrm.a c.nrm.b c.nrm.c c.nrm.d = (if eqC c C8.zero = true then 0 else 1) ∧
    (tuOk c 5 = true → C8.tuR c 5 = c.turn 5) ∧ (nmOk (c.turn 5) = true → (c.turn 5).nmR = c.nrm) ∧ (miOk c = true → C8.miR c = c.mir) ∧ (nmOk c.mir = true → c.mir.nmR = c.nrm) := by
  have h' := h
  simp only [nmOk, Bool.and_eq_true] at h'
  refine ⟨by rw [C8.nmR, if_pos h], h'.2, ?_, fun h2 => by rw [C8.tuR, if_pos h2]; rfl, fun h2 => by rw [C8.nmR, if_pos h2, nrm_turn5], fun h2 => by rw [C8.miR, if_pos h2], fun h2 => by rw [C8.nmR, if_pos h2, nrm_mir]⟩
  split
  · rename_i e
    rw [eqC_iff] at e
    subst e
    rw [nrm_zero]; decide
  · rename_i e
    exact nrm_pos (fun e2 => e (eqC_iff.2 e2))

set_option maxRecDepth 100000 in
set_option maxHeartbeats 8000000 in
theorem fnNorm_any (a : Option Addr) (len cap : Nat) (W : World) (hv : HasB W W.heap.size a len) (hc : len ≤ cap) :
    Calls Try.prog 8 #[.slice a len cap] W fun e w' => e = .returned (.bool true) ∧ Below W.heap.size W w' := by
  by_cases hl : len ≤ 1048576
  · go_enter Try.func8, Try.ntmps8
    go_wp2_with (go_at_call 30; refine (drawSurdNorm_any _ _ _ W.heap.size _ W hv (by repeat' (first | (with_reducible assumption) | (with_reducible exact Below.refl _ _) | (with_reducible refine Below.alloc ?_ ?_ _) | (with_reducible refine below_more ?_ ?_ _ _) | (with_reducible refine below_rd ?_ ?_ _ _) | (with_reducible refine Below.drew ?_) | (first | omega | (simp; omega) | (simp; done)))) (by (first | omega | (simp; omega) | (simp; done))) hl hc).mono ?_; rintro e w' ⟨⟨c, rfl⟩, hb⟩; obtain ⟨os, dd, rfl⟩ := more_of_below hb; clear hb)
    rcases Bool.eq_false_or_eq_true (nmOk c) with h | h
    · obtain ⟨f1, f2, f3, f4, f5, f6, f7⟩ := norm_facts h
      have F2 := Lib.hid f2
      clear f2
      have k1 : tuOk c 5 = false ∨ (tuOk c 5 = true ∧ C8.tuR c 5 = c.turn 5 ∧ nmOk (c.turn 5) = false) ∨ (tuOk c 5 = true ∧ C8.tuR c 5 = c.turn 5 ∧ nmOk (c.turn 5) = true ∧ (c.turn 5).nmR = c.nrm) := by
        rcases Bool.eq_false_or_eq_true (tuOk c 5) with q | q
        · rcases Bool.eq_false_or_eq_true (nmOk (c.turn 5)) with r | r
          · exact Or.inr (Or.inr ⟨q, f4 q, r, f5 r⟩)
          · exact Or.inr (Or.inl ⟨q, f4 q, r⟩)
        · exact Or.inl q
      have k2 : miOk c = false ∨ (miOk c = true ∧ C8.miR c = c.mir ∧ nmOk c.mir = false) ∨ (miOk c = true ∧ C8.miR c = c.mir ∧ nmOk c.mir = true ∧ c.mir.nmR = c.nrm) := by
        rcases Bool.eq_false_or_eq_true (miOk c) with q | q
        · rcases Bool.eq_false_or_eq_true (nmOk c.mir) with r | r
          · exact Or.inr (Or.inr ⟨q, f6 q, r, f7 r⟩)
          · exact Or.inr (Or.inl ⟨q, f6 q, r⟩)
        · exact Or.inl q
      clear f4 f5 f6 f7
      rcases Bool.eq_false_or_eq_true (eqC c C8.zero) with z | z
      all_goals
        simp only [z, if_true, Bool.false_eq_true, if_false] at f3
        rcases k1 with q | ⟨q, q1, q2⟩ | ⟨q, q1, q2, q3⟩ <;> rcases k2 with t | ⟨t, t1, t2⟩ | ⟨t, t1, t2, t3⟩
      all_goals
        go_wp2_with (first
          | (go_at_call 28; refine (specSurdNorm_any _ _).mono ?_; rintro e w' ⟨rfl, hb⟩; obtain ⟨os, d, rfl⟩ := more_of_below hb; clear hb)
          | (go_at_call 29; refine (surdNorm_any _ _).mono ?_; rintro e w' ⟨rfl, hb⟩; obtain ⟨os, d, rfl⟩ := more_of_below hb; clear hb)
          | (go_at_call 31; refine (surdSign_yes _ _ _ _ _ F2.out).mono ?_; rintro e w' ⟨rfl, hb⟩; obtain ⟨os, d, rfl⟩ := more_of_below hb; clear hb)
          | (go_at_call 17; refine (cycMirror_any _ _).mono ?_; rintro e w' ⟨rfl, hb⟩; obtain ⟨os, d, rfl⟩ := more_of_below hb; clear hb)
          | (go_at_call 27; refine (cycTurned_any _ _ _).mono ?_; rintro e w' ⟨rfl, hb⟩; obtain ⟨os, d, rfl⟩ := more_of_below hb; clear hb))
        go_ret
        exact ⟨rfl, by repeat' (first | (with_reducible exact Below.refl _ _) | (with_reducible assumption) | (with_reducible refine Below.alloc ?_ ?_ _) | (with_reducible refine below_more ?_ ?_ _ _) | (with_reducible refine below_rd ?_ ?_ _ _) | (with_reducible refine Below.drew ?_) | (with_reducible refine Below.setCell ?_ ?_ _) | go_size)⟩
    · go_wp2_with (first
        | (go_at_call 28; refine (specSurdNorm_any _ _).mono ?_; rintro e w' ⟨rfl, hb⟩; obtain ⟨os, d, rfl⟩ := more_of_below hb; clear hb)
        | (go_at_call 29; refine (surdNorm_any _ _).mono ?_; rintro e w' ⟨rfl, hb⟩; obtain ⟨os, d, rfl⟩ := more_of_below hb; clear hb))
      go_ret
      exact ⟨rfl, by repeat' (first | (with_reducible exact Below.refl _ _) | (with_reducible assumption) | (with_reducible refine Below.alloc ?_ ?_ _) | (with_reducible refine below_more ?_ ?_ _ _) | (with_reducible refine below_rd ?_ ?_ _ _) | (with_reducible refine Below.drew ?_) | (with_reducible refine Below.setCell ?_ ?_ _) | go_size)⟩
  · go_enter Try.func8, Try.ntmps8
    go_wp2
    go_ret
    exact ⟨rfl, by repeat' (first | (with_reducible exact Below.refl _ _) | (with_reducible assumption) | (with_reducible refine Below.alloc ?_ ?_ _) | (with_reducible refine below_more ?_ ?_ _ _) | (with_reducible refine below_rd ?_ ?_ _ _) | (with_reducible refine Below.drew ?_) | (with_reducible refine Below.setCell ?_ ?_ _) | go_size)⟩

set_option maxRecDepth 100000 in
theorem fnNorm_lifted (os : Os) (started : os.Started) (H : Type) (enc : TypeId × Value → H) :
    ReturnsInHanded {} Try.checked os 8 .any (Rows.fnNormSpec.pre6 enc Try.prog Try.f8 Rows.fnNormRow.domain false) (Rows.fnNormSpec.post enc Try.prog Try.f8 false true false false) := by
  refine returnsInHanded_of_change (C := Try.checked) own started (by kernel_rfl) Try.func8
    (ChangeSpec.witness6 (enc := enc) (C := Try.checked) false ⟨#[], #[.slice none 0 0], []⟩ 8 (by kernel_rfl) (by kernel_rfl) (by kernel_rfl) (by kernel_rfl)) ?_
  intro W base args ds gs before hval0 hW hcnd _
  have hval : ∀ (j : Nat) t v, Try.f8.params[j]? = some t → args[j]? = some v → Value.okWide Try.prog W .any base t v := hval0
  have hW' := hW
  obtain ⟨p, q, hA0, hV, rfl, hfz, hnd⟩ := hW
  have hA : DataW.TrodAll enc Try.prog W 0 (fun _ => true) true Try.f8.params.toList args.toList ds p := hA0
  rw [Try.params8] at hA hval
  obtain ⟨v0, vs0, d0, ds0, p0, q0, hargs, rfl, rfl, h0, r0⟩ := trodAll_cons hA
  obtain ⟨rfl, rfl, rfl⟩ := trodAll_nil r0
  obtain rfl : args = #[v0] := by cases args; simp_all
  obtain ⟨rfl, rfl⟩ := trodVars_none hV
  obtain ⟨a0, len0, cap0, rfl⟩ := okWide_slice Try.underlying22 (hval 0 22 v0 rfl rfl)
  have k0 := h0
  have lt0 : ∀ x ∈ p0, x.block < W.heap.size := by obtain ⟨m, hm⟩ := k0; exact DataW.trod_lt m _ _ _ hm
  obtain ⟨hv, hc⟩ : HasB W W.heap.size a0 len0 ∧ len0 ≤ cap0 := by
    obtain ⟨fuel, hf⟩ := h0
    rcases open_ints Try.underlying22 Try.underlying5 (by kernel_rfl) hf with ⟨hcs, _⟩ | ⟨x, l, c, zs, hcs, _, hl, hm, hz, _, hcell, hwz⟩
    · simp [Value.cells] at hcs
      obtain ⟨rfl, rfl, rfl⟩ := hcs
      exact ⟨Or.inl rfl, Nat.le_refl _⟩
    · simp [Value.cells] at hcs
      obtain ⟨rfl, rfl, rfl⟩ := hcs
      exact ⟨hasB_of_cells (by have : zs.length = cap0 := by simpa using hz
                               omega) hcell hwz, hl⟩
  clear hA0 hval0
  refine (fnNorm_any a0 len0 cap0 W hv hc).mono fun e W' ⟨he, bel⟩ => ?_
  subst he
  exact ⟨_, rfl, _, _, _, [], _, [], hW', trodAll_mk1 (shut_bool Try.underlying4 _), (trodAll_cons_mk (Below.trod laidOut (by kernel_rfl) (of_decide_eq_true (by kernel_rfl)) k0 bel lt0) trodAll_mk0), rfl, bel.frame _, fun h => by cases h⟩

theorem fnNorm_holds : Rows.FnNormSaid :=
  OpenClaim.holds_of_wide 8 Try.f8 rfl rfl rfl rfl rfl rfl rfl ⟨rfl, rfl, rfl, rfl, rfl⟩ rfl rfl rfl rfl rfl (by kernel_rfl) Try.func8 (by kernel_rfl)
    (of_decide_eq_true (by kernel_rfl)) (by unfold Func.isWrapper; first | (rw [if_pos (by decide +kernel)]; kernel_rfl) | (rw [if_neg (by decide +kernel)]; exact ⟨rfl, rfl⟩))
    (fun os started H enc _ => fnNorm_lifted os started H enc)
#print axioms fnNorm_holds

end Go.Proofs.Ytklmlodapinflaa
