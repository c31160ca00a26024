/- laws.FnTurned returns true, whatever the code. Condition: none. -/
import Derived.Test.YtamfdilibgcakaaDrawG
import Derived.Test.YtamfdilibgcakaaCycS
import Derived.Test.YtamfdilibgcakaaLawA
import Derived.Test.YtamfdilibgcakaaDeep
namespace Go.Proofs.Ytamfdilibgcakaa
open Go.ChangeShapes Go.WideShapes Go.ChangeAt Go.RowKit Go.Joins

theorem rt_ok : ∀ n : Nat, n < 24 → okC (C8.rt n) = true := by decide +kernel
theorem turned_facts {c : C8} {t : Int} (h : tuOk c t = true) : ∃ n : Nat, t = n ∧ n < 24 ∧ C8.tuR c n = c.turn n ∧ inB (n : Int) 0 23 = true ∧ C8.rtR n = C8.rt n ∧ tmOk c (C8.rt n) = true ∧ C8.tmR c (C8.rt n) = c.turn n ∧
    tuOk (c.turn n) (-(n : Int) % 24) = true ∧ C8.tuR (c.turn n) (-(n : Int) % 24) = c := by
  obtain ⟨h1, h2, h3, n, rfl, hn⟩ := tuOk_yes h
  rw [Int.toNat_natCast] at h3
  have e : -(n : Int) % 24 = ((24 - n) % 24 : Nat) := by omega
  have hi : inB (((24 - n) % 24 : Nat) : Int) 0 23 = true := inB_iff.2 (by omega)
  have et : (c.turn n).turn ((24 - n) % 24) = c := by
    rw [C8.turn_add, ← C8.turn_mod, show (n + (24 - n) % 24) % 24 = 0 by omega]; rfl
  have hm : tmOk c (C8.rt n) = true := by
    simp only [tmOk, Bool.and_eq_true]; exact ⟨⟨h1, rt_ok n hn⟩, by rw [C8.mul_rt]; exact h3⟩
  have hu : tuOk (c.turn n) (((24 - n) % 24 : Nat) : Int) = true := by
    simp only [tuOk, Bool.and_eq_true]; exact ⟨⟨h3, hi⟩, by rw [Int.toNat_natCast, et]; exact h1⟩
  refine ⟨n, rfl, hn, by rw [C8.tuR, if_pos h, Int.toNat_natCast], h2, by rw [C8.rtR, if_pos h2, Int.toNat_natCast], hm, by rw [C8.tmR, if_pos hm, C8.mul_rt], ?_, ?_⟩
  · rw [e]; exact hu
  · rw [e, C8.tuR, if_pos hu, Int.toNat_natCast, et]

set_option maxRecDepth 100000 in
set_option maxHeartbeats 4000000 in
theorem fnTurned_any (a : Option Addr) (len cap : Nat) (W : World) (hv : HasB W W.heap.size a len) (hc : len ≤ cap) :
    Calls Try.prog 9 #[.slice a len cap] W fun e w' => e = .returned (.bool true) ∧ Below W.heap.size W w' := by
  by_cases hl : len ≤ 1048576
  · go_enter Try.func9, Try.ntmps9
    go_wp2_with (go_at_call 31; refine (drawCycTurned_any _ _ _ W.heap.size _ W hv (by repeat' (first | (with_reducible assumption) | (with_reducible exact Below.refl _ _) | (with_reducible refine Below.alloc ?_ ?_ _) | (with_reducible refine below_more ?_ ?_ _ _) | (with_reducible refine below_rd ?_ ?_ _ _) | (with_reducible refine Below.drew ?_) | (first | omega | (simp; omega) | (simp; done)))) (by (first | omega | (simp; omega) | (simp; done))) hl hc).mono ?_; rintro e w' ⟨⟨c, t, rfl⟩, hb⟩; obtain ⟨os, dd, rfl⟩ := more_of_below hb; clear hb)
    rcases Bool.eq_false_or_eq_true (tuOk c t) with h | h
    · obtain ⟨n, rfl, hn, f0, f1, f2, f3, f4, f5, f6⟩ := turned_facts h
      go_wp2_with (first
        | (go_at_call 25; refine (specCycTurned_any _ _ _).mono ?_; rintro e w' ⟨rfl, hb⟩; obtain ⟨os, d, rfl⟩ := more_of_below hb; clear hb)
        | (go_at_call 24; refine (cycTurned_any _ _ _).mono ?_; rintro e w' ⟨rfl, hb⟩; obtain ⟨os, d, rfl⟩ := more_of_below hb; clear hb)
        | (go_at_call 27; refine (cycRoot_any _ _).mono ?_; rintro e w' ⟨rfl, hb⟩; obtain ⟨os, d, rfl⟩ := more_of_below hb; clear hb)
        | (go_at_call 19; refine (cycTimes_any _ _ _).mono ?_; rintro e w' ⟨rfl, hb⟩; obtain ⟨os, d, rfl⟩ := more_of_below hb; clear hb))
      go_ret
      exact ⟨rfl, by repeat' (first | (with_reducible exact Below.refl _ _) | (with_reducible assumption) | (with_reducible refine Below.alloc ?_ ?_ _) | (with_reducible refine below_more ?_ ?_ _ _) | (with_reducible refine below_rd ?_ ?_ _ _) | (with_reducible refine Below.drew ?_) | (with_reducible refine Below.setCell ?_ ?_ _) | go_size)⟩
    · go_wp2_with (first
        | (go_at_call 25; refine (specCycTurned_any _ _ _).mono ?_; rintro e w' ⟨rfl, hb⟩; obtain ⟨os, d, rfl⟩ := more_of_below hb; clear hb)
        | (go_at_call 24; refine (cycTurned_any _ _ _).mono ?_; rintro e w' ⟨rfl, hb⟩; obtain ⟨os, d, rfl⟩ := more_of_below hb; clear hb))
      go_ret
      exact ⟨rfl, by repeat' (first | (with_reducible exact Below.refl _ _) | (with_reducible assumption) | (with_reducible refine Below.alloc ?_ ?_ _) | (with_reducible refine below_more ?_ ?_ _ _) | (with_reducible refine below_rd ?_ ?_ _ _) | (with_reducible refine Below.drew ?_) | (with_reducible refine Below.setCell ?_ ?_ _) | go_size)⟩
  · go_enter Try.func9, Try.ntmps9
    go_wp2
    go_ret
    exact ⟨rfl, by repeat' (first | (with_reducible exact Below.refl _ _) | (with_reducible assumption) | (with_reducible refine Below.alloc ?_ ?_ _) | (with_reducible refine below_more ?_ ?_ _ _) | (with_reducible refine below_rd ?_ ?_ _ _) | (with_reducible refine Below.drew ?_) | (with_reducible refine Below.setCell ?_ ?_ _) | go_size)⟩

set_option maxRecDepth 100000 in
theorem fnTurned_lifted (os : Os) (started : os.Started) (H : Type) (enc : TypeId × Value → H) :
    ReturnsInHanded {} Try.checked os 9 .any (Rows.fnTurnedSpec.pre6 enc Try.prog Try.f9 Rows.fnTurnedRow.domain false) (Rows.fnTurnedSpec.post enc Try.prog Try.f9 false true false false) := by
  refine returnsInHanded_of_change (C := Try.checked) own started (by kernel_rfl) Try.func9
    (ChangeSpec.witness6 (enc := enc) (C := Try.checked) false ⟨#[], #[.slice none 0 0], []⟩ 8 (by kernel_rfl) (by kernel_rfl) (by kernel_rfl) (by kernel_rfl)) ?_
  intro W base args ds gs before hval0 hW hcnd _
  have hval : ∀ (j : Nat) t v, Try.f9.params[j]? = some t → args[j]? = some v → Value.okWide Try.prog W .any base t v := hval0
  have hW' := hW
  obtain ⟨p, q, hA0, hV, rfl, hfz, hnd⟩ := hW
  have hA : DataW.TrodAll enc Try.prog W 0 (fun _ => true) true Try.f9.params.toList args.toList ds p := hA0
  rw [Try.params9] at hA hval
  obtain ⟨v0, vs0, d0, ds0, p0, q0, hargs, rfl, rfl, h0, r0⟩ := trodAll_cons hA
  obtain ⟨rfl, rfl, rfl⟩ := trodAll_nil r0
  obtain rfl : args = #[v0] := by cases args; simp_all
  obtain ⟨rfl, rfl⟩ := trodVars_none hV
  obtain ⟨a0, len0, cap0, rfl⟩ := okWide_slice Try.underlying33 (hval 0 33 v0 rfl rfl)
  have k0 := h0
  have lt0 : ∀ x ∈ p0, x.block < W.heap.size := by obtain ⟨m, hm⟩ := k0; exact DataW.trod_lt m _ _ _ hm
  obtain ⟨hv, hc⟩ : HasB W W.heap.size a0 len0 ∧ len0 ≤ cap0 := by
    obtain ⟨fuel, hf⟩ := h0
    rcases open_ints Try.underlying33 Try.underlying5 (by kernel_rfl) hf with ⟨hcs, _⟩ | ⟨x, l, c, zs, hcs, _, hl, hm, hz, _, hcell, hwz⟩
    · simp [Value.cells] at hcs
      obtain ⟨rfl, rfl, rfl⟩ := hcs
      exact ⟨Or.inl rfl, Nat.le_refl _⟩
    · simp [Value.cells] at hcs
      obtain ⟨rfl, rfl, rfl⟩ := hcs
      exact ⟨hasB_of_cells (by have : zs.length = cap0 := by simpa using hz
                               omega) hcell hwz, hl⟩
  clear hA0 hval0
  refine (fnTurned_any a0 len0 cap0 W hv hc).mono fun e W' ⟨he, bel⟩ => ?_
  subst he
  exact ⟨_, rfl, _, _, _, [], _, [], hW', trodAll_mk1 (shut_bool Try.underlying4 _), (trodAll_cons_mk (Below.trod laidOut (by kernel_rfl) (of_decide_eq_true (by kernel_rfl)) k0 bel lt0) trodAll_mk0), rfl, bel.frame _, fun h => by cases h⟩

theorem fnTurned_holds : Rows.FnTurnedSaid :=
  OpenClaim.holds_of_wide 9 Try.f9 rfl rfl rfl rfl rfl rfl rfl ⟨rfl, rfl, rfl, rfl, rfl⟩ rfl rfl rfl rfl rfl (by kernel_rfl) Try.func9 (by kernel_rfl)
    (of_decide_eq_true (by kernel_rfl)) (by unfold Func.isWrapper; first | (rw [if_pos (by decide +kernel)]; kernel_rfl) | (rw [if_neg (by decide +kernel)]; exact ⟨rfl, rfl⟩))
    (fun os started H enc _ => fnTurned_lifted os started H enc)
#print axioms fnTurned_holds

end Go.Proofs.Ytamfdilibgcakaa
