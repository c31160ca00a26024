/- laws.FnSurdTimes returns true, whatever the code. Condition: none. -/
import Derived.Test.YtamfdilibgcakaaDrawS
import Derived.Test.YtamfdilibgcakaaSignY
import Derived.Test.YtamfdilibgcakaaLawA
import Derived.Test.YtamfdilibgcakaaDeep
namespace Go.Proofs.Ytamfdilibgcakaa
open Go.ChangeShapes Go.WideShapes Go.ChangeAt Go.RowKit Go.Joins

theorem st_comm (a b c d a' b' c' d' : Int) : tA a' b' c' d' a b c d = tA a b c d a' b' c' d' ∧ tB a' b' c' d' a b c d = tB a b c d a' b' c' d' ∧ tC a' b' c' d' a b c d = tC a b c d a' b' c' d' ∧ tD a' b' c' d' a b c d = tD a b c d a' b' c' d' := by
  refine ⟨?_, ?_, ?_, ?_⟩ <;> simp only [tA, tB, tC, tD] <;> grind
theorem st_sg (a b c d a' b' c' d' : Int) : sgS (tA a b c d a' b' c' d') (tB a b c d a' b' c' d') (tC a b c d a' b' c' d') (tD a b c d a' b' c' d') = sgS a b c d * sgS a' b' c' d' := by
  unfold sgS
  rw [← Q4.sg_mul]
  congr 1
  apply Q4.ext' <;> apply Q2.ext' <;> simp only [Q4.mul, Q2.add, Q2.mul, Q2.smul, tA, tB, tC, tD] <;> grind
theorem sg_prod (a b c d a' b' c' d' : Int) : -1 ≤ sgS a b c d * sgS a' b' c' d' ∧ sgS a b c d * sgS a' b' c' d' ≤ 1 := by
  rcases sgS_cases a b c d with h | h | h <;> rcases sgS_cases a' b' c' d' with g | g | g <;> rw [h, g] <;> decide

theorem st_yes {a b c d a' b' c' d' : Int} (h : stOk a b c d a' b' c' d' = true) : okS a b c d = true ∧ okS a' b' c' d' = true ∧ okS (tA a b c d a' b' c' d') (tB a b c d a' b' c' d') (tC a b c d a' b' c' d') (tD a b c d a' b' c' d') = true ∧ stOk a' b' c' d' a b c d = true := by
  simp only [stOk, Bool.and_eq_true] at h
  obtain ⟨⟨h1, h2⟩, h3⟩ := h
  obtain ⟨e1, e2, e3, e4⟩ := st_comm a b c d a' b' c' d'
  exact ⟨h1, h2, h3, by simp only [stOk, e1, e2, e3, e4, h1, h2, h3, Bool.and_self]⟩

set_option maxRecDepth 100000 in
set_option maxHeartbeats 4000000 in
theorem fnSurdTimes_any (a : Option Addr) (len cap : Nat) (W : World) (hv : HasB W W.heap.size a len) (hc : len ≤ cap) :
    Calls Try.prog 14 #[.slice a len cap] W fun e w' => e = .returned (.bool true) ∧ Below W.heap.size W w' := by
  by_cases hl : len ≤ 1048576
  · go_enter Try.func14, Try.ntmps14
    go_wp2_with (go_at_call 36; refine (drawSurdTimes_any _ _ _ W.heap.size _ W hv (by repeat' (first | (with_reducible assumption) | (with_reducible exact Below.refl _ _) | (with_reducible refine Below.alloc ?_ ?_ _) | (with_reducible refine below_more ?_ ?_ _ _) | (with_reducible refine below_rd ?_ ?_ _ _) | (with_reducible refine Below.drew ?_) | (first | omega | (simp; omega) | (simp; done)))) (by (first | omega | (simp; omega) | (simp; done))) hl hc).mono ?_; rintro e w' ⟨⟨x1, x2, x3, x4, y1, y2, y3, y4, rfl⟩, hb⟩; obtain ⟨os, dd, rfl⟩ := more_of_below hb; clear hb)
    rcases Bool.eq_false_or_eq_true (stOk x1 x2 x3 x4 y1 y2 y3 y4) with h | h
    · obtain ⟨f1, f2, f3, f4⟩ := st_yes h
      have K := Lib.hid (st_comm x1 x2 x3 x4 y1 y2 y3 y4)
      have f5 := st_sg x1 x2 x3 x4 y1 y2 y3 y4
      obtain ⟨f6, f7⟩ := sg_prod x1 x2 x3 x4 y1 y2 y3 y4
      have F5 := Lib.hid f5
      have F1 := Lib.hid f1
      have F2 := Lib.hid f2
      have F3 := Lib.hid f3
      have F4 := Lib.hid f4
      have H := Lib.hid h
      clear f1 f2 f3 f4 f5 h
      go_wp2_with (first
        | (go_at_call 38; refine (specTimes_yes _ _ _ _ _ _ _ _ _ H.out).mono ?_; rintro e w' ⟨rfl, hb⟩; obtain ⟨os, d, rfl⟩ := more_of_below hb; clear hb)
        | (go_at_call 37; refine (surdTimes_yes _ _ _ _ _ _ _ _ _ (by first | with_reducible exact H.out | with_reducible exact F4.out)).mono ?_; (try rw [K.out.1, K.out.2.1, K.out.2.2.1, K.out.2.2.2]); rintro e w' ⟨rfl, hb⟩; obtain ⟨os, d, rfl⟩ := more_of_below hb; clear hb)
        | (go_at_call 39; refine (surdSign_yes _ _ _ _ _ (by first | with_reducible exact F1.out | with_reducible exact F2.out | with_reducible exact F3.out)).mono ?_; (try rw [F5.out]); rintro e w' ⟨rfl, hb⟩; obtain ⟨os, d, rfl⟩ := more_of_below hb; clear hb))
      go_ret
      exact ⟨rfl, by repeat' (first | (with_reducible exact Below.refl _ _) | (with_reducible assumption) | (with_reducible refine Below.alloc ?_ ?_ _) | (with_reducible refine below_more ?_ ?_ _ _) | (with_reducible refine below_rd ?_ ?_ _ _) | (with_reducible refine Below.drew ?_) | (with_reducible refine Below.setCell ?_ ?_ _) | go_size)⟩
    · go_wp2_with (first
        | (go_at_call 38; refine (specTimes_no _ _ _ _ _ _ _ _ _ h).mono ?_; rintro e w' ⟨rfl, hb⟩; obtain ⟨os, d, rfl⟩ := more_of_below hb; clear hb)
        | (go_at_call 37; refine (surdTimes_no _ _ _ _ _ _ _ _ _ h).mono ?_; rintro e w' ⟨rfl, hb⟩; obtain ⟨os, d, rfl⟩ := more_of_below hb; clear hb))
      go_ret
      exact ⟨rfl, by repeat' (first | (with_reducible exact Below.refl _ _) | (with_reducible assumption) | (with_reducible refine Below.alloc ?_ ?_ _) | (with_reducible refine below_more ?_ ?_ _ _) | (with_reducible refine below_rd ?_ ?_ _ _) | (with_reducible refine Below.drew ?_) | (with_reducible refine Below.setCell ?_ ?_ _) | go_size)⟩
  · go_enter Try.func14, Try.ntmps14
    go_wp2
    go_ret
    exact ⟨rfl, by repeat' (first | (with_reducible exact Below.refl _ _) | (with_reducible assumption) | (with_reducible refine Below.alloc ?_ ?_ _) | (with_reducible refine below_more ?_ ?_ _ _) | (with_reducible refine below_rd ?_ ?_ _ _) | (with_reducible refine Below.drew ?_) | (with_reducible refine Below.setCell ?_ ?_ _) | go_size)⟩

set_option maxRecDepth 100000 in
theorem fnSurdTimes_lifted (os : Os) (started : os.Started) (H : Type) (enc : TypeId × Value → H) :
    ReturnsInHanded {} Try.checked os 14 .any (Rows.fnSurdTimesSpec.pre6 enc Try.prog Try.f14 Rows.fnSurdTimesRow.domain false) (Rows.fnSurdTimesSpec.post enc Try.prog Try.f14 false true false false) := by
  refine returnsInHanded_of_change (C := Try.checked) own started (by kernel_rfl) Try.func14
    (ChangeSpec.witness6 (enc := enc) (C := Try.checked) false ⟨#[], #[.slice none 0 0], []⟩ 8 (by kernel_rfl) (by kernel_rfl) (by kernel_rfl) (by kernel_rfl)) ?_
  intro W base args ds gs before hval0 hW hcnd _
  have hval : ∀ (j : Nat) t v, Try.f14.params[j]? = some t → args[j]? = some v → Value.okWide Try.prog W .any base t v := hval0
  have hW' := hW
  obtain ⟨p, q, hA0, hV, rfl, hfz, hnd⟩ := hW
  have hA : DataW.TrodAll enc Try.prog W 0 (fun _ => true) true Try.f14.params.toList args.toList ds p := hA0
  rw [Try.params14] at hA hval
  obtain ⟨v0, vs0, d0, ds0, p0, q0, hargs, rfl, rfl, h0, r0⟩ := trodAll_cons hA
  obtain ⟨rfl, rfl, rfl⟩ := trodAll_nil r0
  obtain rfl : args = #[v0] := by cases args; simp_all
  obtain ⟨rfl, rfl⟩ := trodVars_none hV
  obtain ⟨a0, len0, cap0, rfl⟩ := okWide_slice Try.underlying33 (hval 0 33 v0 rfl rfl)
  have k0 := h0
  have lt0 : ∀ x ∈ p0, x.block < W.heap.size := by obtain ⟨m, hm⟩ := k0; exact DataW.trod_lt m _ _ _ hm
  obtain ⟨hv, hc⟩ : HasB W W.heap.size a0 len0 ∧ len0 ≤ cap0 := by
    obtain ⟨fuel, hf⟩ := h0
    rcases open_ints Try.underlying33 Try.underlying5 (by kernel_rfl) hf with ⟨hcs, _⟩ | ⟨x, l, c, zs, hcs, _, hl, hm, hz, _, hcell, hwz⟩
    · simp [Value.cells] at hcs
      obtain ⟨rfl, rfl, rfl⟩ := hcs
      exact ⟨Or.inl rfl, Nat.le_refl _⟩
    · simp [Value.cells] at hcs
      obtain ⟨rfl, rfl, rfl⟩ := hcs
      exact ⟨hasB_of_cells (by have : zs.length = cap0 := by simpa using hz
                               omega) hcell hwz, hl⟩
  clear hA0 hval0
  refine (fnSurdTimes_any a0 len0 cap0 W hv hc).mono fun e W' ⟨he, bel⟩ => ?_
  subst he
  exact ⟨_, rfl, _, _, _, [], _, [], hW', trodAll_mk1 (shut_bool Try.underlying4 _), (trodAll_cons_mk (Below.trod laidOut (by kernel_rfl) (of_decide_eq_true (by kernel_rfl)) k0 bel lt0) trodAll_mk0), rfl, bel.frame _, fun h => by cases h⟩

theorem fnSurdTimes_holds : Rows.FnSurdTimesSaid :=
  OpenClaim.holds_of_wide 14 Try.f14 rfl rfl rfl rfl rfl rfl rfl ⟨rfl, rfl, rfl, rfl, rfl⟩ rfl rfl rfl rfl rfl (by kernel_rfl) Try.func14 (by kernel_rfl)
    (of_decide_eq_true (by kernel_rfl)) (by unfold Func.isWrapper; first | (rw [if_pos (by decide +kernel)]; kernel_rfl) | (rw [if_neg (by decide +kernel)]; exact ⟨rfl, rfl⟩))
    (fun os started H enc _ => fnSurdTimes_lifted os started H enc)
#print axioms fnSurdTimes_holds

end Go.Proofs.Ytamfdilibgcakaa
