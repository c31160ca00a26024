/- laws.FnSwingSum returns true, whatever the code. Condition: none. -/
import Derived.Test.YthhdmokocddeiaaDrawSN
import Derived.Test.YthhdmokocddeiaaSwingE
import Derived.Test.YthhdmokocddeiaaLawA
import Derived.Deep.RegionHeld3
import Derived.Test.YthhdmokocddeiaaDeep
namespace Go.Proofs.Ythhdmokocddeiaa
open Go.ChangeShapes Go.WideShapes Go.ChangeAt Go.RowKit Go.Joins

theorem smV_nn {z : Z2} {t s n : Int} (h1 : z.1 < 4294967296) (h2 : z.2 < 4294967296) : NNZ (smV z t s n) := by
  unfold smV
  split
  · rename_i h
    simp only [saOk, Bool.and_eq_true] at h
    obtain ⟨hz, t', s', rfl, rfl, -, -⟩ := swOk_get h1 h2 h.1
    exact smZ_nn hz _
  · exact ⟨by unfold NN32; decide, by unfold NN32; decide⟩
theorem swingSum_facts {x y : Nat} {t s n : Int} (h : saOk (x, y) t s n = true) (h2 : saOk (x, y) t s (n + 1) = true) :
    smV (x, y) t s (n + 1) = addZ (smV (x, y) t s n) (saZ (x, y) t s n) := by
  have h' := h
  simp only [saOk, Bool.and_eq_true] at h'
  have hk := inB_iff.1 h'.2
  obtain ⟨k', rfl⟩ := Int.eq_ofNat_of_zero_le hk.1
  rw [smV, if_pos h2, smV, if_pos h, saZ, if_pos h]
  rfl
set_option maxRecDepth 100000 in
set_option maxHeartbeats 4000000 in
theorem fnSwingSum_any (a : Option Addr) (len cap : Nat) (W : World) (hv : HasB W W.heap.size a len) (hc : len ≤ cap) :
    Calls Try.prog 6 #[.slice a len cap] W fun e w' => e = .returned (.bool true) ∧ Below W.heap.size W w' := by
  by_cases hl : len ≤ 1048576
  · go_enter Try.func6, Try.ntmps6
    go_wp2_with (go_at_call 21; refine (drawSwingSum_any _ _ _ W.heap.size _ W hv (by repeat' (first | (with_reducible assumption) | (with_reducible exact Below.refl _ _) | (with_reducible refine Below.alloc ?_ ?_ _) | (with_reducible refine below_more ?_ ?_ _ _) | (with_reducible refine below_rd ?_ ?_ _ _) | (with_reducible refine Below.drew ?_) | (first | omega | (simp; omega) | (simp; done)))) (by (first | omega | (simp; omega) | (simp; done))) hl hc).mono ?_; rintro e w' ⟨⟨x, y, t, s, k, hx, hy, hk1, hk2, rfl⟩, hb⟩; obtain ⟨os, dd, rfl⟩ := more_of_below hb; clear hb)
    have HF := Lib.hid (fun n => (show NN32 (smV (x, y) t s n).1 ∧ NN32 (smV (x, y) t s n).2 from smV_nn (z := (x, y)) (t := t) (s := s) (n := n) hx hy))
    rcases Bool.eq_false_or_eq_true (saOk (x, y) t s k) with h | h
    · rcases Bool.eq_false_or_eq_true (saOk (x, y) t s (k + 1)) with h2 | h2
      · have f4 := swingSum_facts h h2
        have r1 := fun w => run_addZ (P := Try.prog) w 31 (HF.out k) (saZ_fin (z := (x, y)) (t := t) (s := s) (k := k) hx hy)
        have HA : NN32 (addZ (smV (x, y) t s k) (saZ (x, y) t s k)).1 ∧ NN32 (addZ (smV (x, y) t s k) (saZ (x, y) t s k)).2 := by rw [← f4]; exact HF.out _
        have HAH := Lib.hid HA
        clear HA
        go_wp2_with (first
          | (go_at_call 23; refine (specSwingSum_any (_, _) _ _ _ hx hy _).mono ?_; rintro e w' ⟨rfl, hb⟩; obtain ⟨os, d, rfl⟩ := more_of_below hb; clear hb)
          | (go_at_call 22; refine (swingSum_any (_, _) _ _ _ hx hy _).mono ?_; rintro e w' ⟨rfl, hb⟩; obtain ⟨os, d, rfl⟩ := more_of_below hb; clear hb)
          | (go_at_call 17; refine (swingAt_any (_, _) _ _ _ hx hy _).mono ?_; rintro e w' ⟨rfl, hb⟩; obtain ⟨os, d, rfl⟩ := more_of_below hb; clear hb)
          | (go_at_call 18; refine (singleAlike_same _ _ (by first | (with_reducible exact (HF.out _).1) | (with_reducible exact HAH.out.1)) (by first | (with_reducible exact (HF.out _).2) | (with_reducible exact HAH.out.2)) _).mono ?_; rintro e w' ⟨rfl, rfl⟩))
        go_ret
        exact ⟨rfl, by repeat' (first | (with_reducible exact Below.refl _ _) | (with_reducible assumption) | (with_reducible refine Below.alloc ?_ ?_ _) | (with_reducible refine below_more ?_ ?_ _ _) | (with_reducible refine below_rd ?_ ?_ _ _) | (with_reducible refine Below.drew ?_) | (with_reducible refine Below.setCell ?_ ?_ _) | go_size)⟩
      · go_wp2_with (first
          | (go_at_call 23; refine (specSwingSum_any (_, _) _ _ _ hx hy _).mono ?_; rintro e w' ⟨rfl, hb⟩; obtain ⟨os, d, rfl⟩ := more_of_below hb; clear hb)
          | (go_at_call 22; refine (swingSum_any (_, _) _ _ _ hx hy _).mono ?_; rintro e w' ⟨rfl, hb⟩; obtain ⟨os, d, rfl⟩ := more_of_below hb; clear hb)
          | (go_at_call 17; refine (swingAt_any (_, _) _ _ _ hx hy _).mono ?_; rintro e w' ⟨rfl, hb⟩; obtain ⟨os, d, rfl⟩ := more_of_below hb; clear hb)
          | (go_at_call 18; refine (singleAlike_same _ _ (by with_reducible exact (HF.out _).1) (by with_reducible exact (HF.out _).2) _).mono ?_; rintro e w' ⟨rfl, rfl⟩))
        go_ret
        exact ⟨rfl, by repeat' (first | (with_reducible exact Below.refl _ _) | (with_reducible assumption) | (with_reducible refine Below.alloc ?_ ?_ _) | (with_reducible refine below_more ?_ ?_ _ _) | (with_reducible refine below_rd ?_ ?_ _ _) | (with_reducible refine Below.drew ?_) | (with_reducible refine Below.setCell ?_ ?_ _) | go_size)⟩
    · go_wp2_with (first
        | (go_at_call 23; refine (specSwingSum_any (_, _) _ _ _ hx hy _).mono ?_; rintro e w' ⟨rfl, hb⟩; obtain ⟨os, d, rfl⟩ := more_of_below hb; clear hb)
        | (go_at_call 22; refine (swingSum_any (_, _) _ _ _ hx hy _).mono ?_; rintro e w' ⟨rfl, hb⟩; obtain ⟨os, d, rfl⟩ := more_of_below hb; clear hb)
        | (go_at_call 18; refine (singleAlike_same _ _ (by with_reducible exact (HF.out _).1) (by with_reducible exact (HF.out _).2) _).mono ?_; rintro e w' ⟨rfl, rfl⟩))
      go_ret
      exact ⟨rfl, by repeat' (first | (with_reducible exact Below.refl _ _) | (with_reducible assumption) | (with_reducible refine Below.alloc ?_ ?_ _) | (with_reducible refine below_more ?_ ?_ _ _) | (with_reducible refine below_rd ?_ ?_ _ _) | (with_reducible refine Below.drew ?_) | (with_reducible refine Below.setCell ?_ ?_ _) | go_size)⟩
  · go_enter Try.func6, Try.ntmps6
    go_wp2
    go_ret
    exact ⟨rfl, by repeat' (first | (with_reducible exact Below.refl _ _) | (with_reducible assumption) | (with_reducible refine Below.alloc ?_ ?_ _) | (with_reducible refine below_more ?_ ?_ _ _) | (with_reducible refine below_rd ?_ ?_ _ _) | (with_reducible refine Below.drew ?_) | (with_reducible refine Below.setCell ?_ ?_ _) | go_size)⟩

set_option maxRecDepth 100000 in
theorem fnSwingSum_lifted (os : Os) (started : os.Started) (H : Type) (enc : TypeId × Value → H) :
    ReturnsInHanded {} Try.checked os 6 .any (Rows.fnSwingSumSpec.pre6 enc Try.prog Try.f6 Rows.fnSwingSumRow.domain false) (Rows.fnSwingSumSpec.post enc Try.prog Try.f6 false true false false) := by
  refine returnsInHanded_of_change (C := Try.checked) own started (by kernel_rfl) Try.func6
    (ChangeSpec.witness6 (enc := enc) (C := Try.checked) false ⟨#[], #[.slice none 0 0], []⟩ 8 (by kernel_rfl) (by kernel_rfl) (by kernel_rfl) (by kernel_rfl)) ?_
  intro W base args ds gs before hval0 hW hcnd _
  have hval : ∀ (j : Nat) t v, Try.f6.params[j]? = some t → args[j]? = some v → Value.okWide Try.prog W .any base t v := hval0
  have hW' := hW
  obtain ⟨p, q, hA0, hV, rfl, hfz, hnd⟩ := hW
  have hA : DataW.TrodAll enc Try.prog W 0 (fun _ => true) true Try.f6.params.toList args.toList ds p := hA0
  rw [Try.params6] at hA hval
  obtain ⟨v0, vs0, d0, ds0, p0, q0, hargs, rfl, rfl, h0, r0⟩ := trodAll_cons hA
  obtain ⟨rfl, rfl, rfl⟩ := trodAll_nil r0
  obtain rfl : args = #[v0] := by cases args; simp_all
  obtain ⟨rfl, rfl⟩ := trodVars_none hV
  obtain ⟨a0, len0, cap0, rfl⟩ := okWide_slice Try.underlying30 (hval 0 30 v0 rfl rfl)
  have k0 := h0
  have lt0 : ∀ x ∈ p0, x.block < W.heap.size := by obtain ⟨m, hm⟩ := k0; exact DataW.trod_lt m _ _ _ hm
  obtain ⟨hv, hc⟩ : HasB W W.heap.size a0 len0 ∧ len0 ≤ cap0 := by
    obtain ⟨fuel, hf⟩ := h0
    rcases open_ints Try.underlying30 Try.underlying5 (by kernel_rfl) hf with ⟨hcs, _⟩ | ⟨x, l, c, zs, hcs, _, hl, hm, hz, _, hcell, hwz⟩
    · simp [Value.cells] at hcs
      obtain ⟨rfl, rfl, rfl⟩ := hcs
      exact ⟨Or.inl rfl, Nat.le_refl _⟩
    · simp [Value.cells] at hcs
      obtain ⟨rfl, rfl, rfl⟩ := hcs
      exact ⟨hasB_of_cells (by have : zs.length = cap0 := by simpa using hz
                               omega) hcell hwz, hl⟩
  clear hA0 hval0
  refine (fnSwingSum_any a0 len0 cap0 W hv hc).mono fun e W' ⟨he, bel⟩ => ?_
  subst he
  exact ⟨_, rfl, _, _, _, [], _, [], hW', trodAll_mk1 (shut_bool Try.underlying4 _), (trodAll_cons_mk (Below.trod laidOut (by kernel_rfl) (of_decide_eq_true (by kernel_rfl)) k0 bel lt0) trodAll_mk0), rfl, bel.frame _, fun h => by cases h⟩

theorem fnSwingSum_holds : Rows.FnSwingSumSaid :=
  OpenClaim.holds_of_wide 6 Try.f6 rfl rfl rfl rfl rfl rfl rfl ⟨rfl, rfl, rfl, rfl, rfl⟩ rfl rfl rfl rfl rfl (by kernel_rfl) Try.func6 (by kernel_rfl)
    (of_decide_eq_true (by kernel_rfl)) (by unfold Func.isWrapper; first | (rw [if_pos (by decide +kernel)]; kernel_rfl) | (rw [if_neg (by decide +kernel)]; exact ⟨rfl, rfl⟩))
    (fun os started H enc _ => fnSwingSum_lifted os started H enc)
#print axioms fnSwingSum_holds

end Go.Proofs.Ythhdmokocddeiaa
