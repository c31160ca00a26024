/- laws.FnExactPolyCross returns true, whatever it is called with. Condition: none. -/
import Derived.Test.YtklmlodapinflaaPolyC
import Derived.Test.YtklmlodapinflaaLawC
import Derived.Test.YtklmlodapinflaaLawS
import Derived.Test.YtklmlodapinflaaCycH
import Derived.Deep.RegionWith
import Derived.Deep.RegionHeld3
import Derived.Deep.DeepCutAuto
namespace Go.Proofs.Ytklmlodapinflaa
open Go.ChangeShapes Go.WideShapes Go.ChangeAt Go.RowKit Go.Joins

set_option maxHeartbeats 4000000 in
set_option maxRecDepth 100000 in
theorem fnExactPolyCross_walk (a b : C8) (s : S4) (ok : Bool) (w : World)
    (hs : ∀ w, Calls Try.prog 19 #[cv a, cv b] w fun e w' => e = .returned (.tuple #[sS s, .bool ok]) ∧ Below w.heap.size w w')
    (hi : ∀ w, Calls Try.prog 21 #[cv a, cv b] w fun e w' => e = .returned (.tuple #[sS s, .bool ok]) ∧ Below w.heap.size w w') :
    Calls Try.prog 4 #[cv a, cv b] w fun e w' => e = .returned (.bool true) ∧ Below w.heap.size w w' := by
  have HS := Lib.hid hs
  have HI := Lib.hid hi
  clear hs hi
  go_enter Try.func4, Try.ntmps4
  go_upto_region 1 with fail
  go_cut [5, 6] (fun s5 s6 wx => ∃ g : Nat, s5 = .pointer (some ⟨g, 0, none⟩) ∧ s6 = .bool ok ∧ Below w.heap.size w wx ∧ g < wx.heap.size ∧ w.heap.size < wx.heap.size ∧ w.heap.size + 1 < wx.heap.size ∧
     (wx.cell? ⟨g, 0, none⟩ = some (.int .i64 s.a) ∧ wx.cell? ⟨g, 1, none⟩ = some (.int .i64 s.b) ∧ wx.cell? ⟨g, 2, none⟩ = some (.int .i64 s.c) ∧ wx.cell? ⟨g, 3, none⟩ = some (.int .i64 s.d)) ∧
     (wx.cell? ⟨w.heap.size, 0, none⟩ = some (.int .i64 a.c0) ∧ wx.cell? ⟨w.heap.size, 1, none⟩ = some (.int .i64 a.c1) ∧ wx.cell? ⟨w.heap.size, 2, none⟩ = some (.int .i64 a.c2) ∧ wx.cell? ⟨w.heap.size, 3, none⟩ = some (.int .i64 a.c3) ∧ wx.cell? ⟨w.heap.size, 4, none⟩ = some (.int .i64 a.c4) ∧ wx.cell? ⟨w.heap.size, 5, none⟩ = some (.int .i64 a.c5) ∧ wx.cell? ⟨w.heap.size, 6, none⟩ = some (.int .i64 a.c6) ∧ wx.cell? ⟨w.heap.size, 7, none⟩ = some (.int .i64 a.c7)) ∧
     (wx.cell? ⟨w.heap.size + 1, 0, none⟩ = some (.int .i64 b.c0) ∧ wx.cell? ⟨w.heap.size + 1, 1, none⟩ = some (.int .i64 b.c1) ∧ wx.cell? ⟨w.heap.size + 1, 2, none⟩ = some (.int .i64 b.c2) ∧ wx.cell? ⟨w.heap.size + 1, 3, none⟩ = some (.int .i64 b.c3) ∧ wx.cell? ⟨w.heap.size + 1, 4, none⟩ = some (.int .i64 b.c4) ∧ wx.cell? ⟨w.heap.size + 1, 5, none⟩ = some (.int .i64 b.c5) ∧ wx.cell? ⟨w.heap.size + 1, 6, none⟩ = some (.int .i64 b.c6) ∧ wx.cell? ⟨w.heap.size + 1, 7, none⟩ = some (.int .i64 b.c7)))
  case first =>
    go_region_held3 (fun w' => w'.cell? ⟨w.heap.size, 0, none⟩ = some (.int .i64 a.c0) ∧ w'.cell? ⟨w.heap.size, 1, none⟩ = some (.int .i64 a.c1) ∧ w'.cell? ⟨w.heap.size, 2, none⟩ = some (.int .i64 a.c2) ∧ w'.cell? ⟨w.heap.size, 3, none⟩ = some (.int .i64 a.c3) ∧ w'.cell? ⟨w.heap.size, 4, none⟩ = some (.int .i64 a.c4) ∧ w'.cell? ⟨w.heap.size, 5, none⟩ = some (.int .i64 a.c5) ∧ w'.cell? ⟨w.heap.size, 6, none⟩ = some (.int .i64 a.c6) ∧ w'.cell? ⟨w.heap.size, 7, none⟩ = some (.int .i64 a.c7) ∧ w'.cell? ⟨w.heap.size + 1, 0, none⟩ = some (.int .i64 b.c0) ∧ w'.cell? ⟨w.heap.size + 1, 1, none⟩ = some (.int .i64 b.c1) ∧ w'.cell? ⟨w.heap.size + 1, 2, none⟩ = some (.int .i64 b.c2) ∧ w'.cell? ⟨w.heap.size + 1, 3, none⟩ = some (.int .i64 b.c3) ∧ w'.cell? ⟨w.heap.size + 1, 4, none⟩ = some (.int .i64 b.c4) ∧ w'.cell? ⟨w.heap.size + 1, 5, none⟩ = some (.int .i64 b.c5) ∧ w'.cell? ⟨w.heap.size + 1, 6, none⟩ = some (.int .i64 b.c6) ∧ w'.cell? ⟨w.heap.size + 1, 7, none⟩ = some (.int .i64 b.c7)) (simp [go_sem])
     (first
      | (go_at_call 20; refine (toCyc_any _ _).mono ?_; rintro e w' ⟨rfl, hb⟩; obtain ⟨os, d, rfl⟩ := more_of_below hb; clear hb)
      | (go_at_call 19; refine (HS.out _).mono ?_; rintro e w' ⟨rfl, hb⟩; obtain ⟨os, d, rfl⟩ := more_of_below hb; clear hb))
    all_goals
      go_wp2_with fail
      go_meet
      refine ⟨_, rfl, rfl, by repeat' (first | (with_reducible exact Below.refl _ _) | (with_reducible assumption) | (with_reducible refine Below.alloc ?_ ?_ _) | (with_reducible refine below_more ?_ ?_ _ _) | (with_reducible refine below_rd ?_ ?_ _ _) | (with_reducible refine Below.drew ?_) | (with_reducible refine Below.setCell ?_ ?_ _) | go_size), by simp [go_sem], by simp [go_sem], by simp [go_sem], by simp [go_sem], by simp [go_sem], by simp [go_sem]⟩
  case rest =>
    obtain ⟨g, rfl, rfl, hb, hg, hz0, hz1, ⟨hg0, hg1, hg2, hg3⟩, ⟨ha0, ha1, ha2, ha3, ha4, ha5, ha6, ha7⟩, ⟨hb0, hb1, hb2, hb3, hb4, hb5, hb6, hb7⟩⟩ := hcut
    go_upto_region 2 with fail
    go_cut [7, 8] (fun s7 s8 wx => ∃ k : Nat, s7 = .pointer (some ⟨k, 0, none⟩) ∧ s8 = .bool ok ∧ Below w.heap.size w wx ∧
     (wx.cell? ⟨g, 0, none⟩ = some (.int .i64 s.a) ∧ wx.cell? ⟨g, 1, none⟩ = some (.int .i64 s.b) ∧ wx.cell? ⟨g, 2, none⟩ = some (.int .i64 s.c) ∧ wx.cell? ⟨g, 3, none⟩ = some (.int .i64 s.d)) ∧
     (wx.cell? ⟨k, 0, none⟩ = some (.int .i64 s.a) ∧ wx.cell? ⟨k, 1, none⟩ = some (.int .i64 s.b) ∧ wx.cell? ⟨k, 2, none⟩ = some (.int .i64 s.c) ∧ wx.cell? ⟨k, 3, none⟩ = some (.int .i64 s.d)))
    case first =>
      go_region_held3 (fun w' => w'.cell? ⟨w.heap.size, 0, none⟩ = some (.int .i64 a.c0) ∧ w'.cell? ⟨w.heap.size, 1, none⟩ = some (.int .i64 a.c1) ∧ w'.cell? ⟨w.heap.size, 2, none⟩ = some (.int .i64 a.c2) ∧ w'.cell? ⟨w.heap.size, 3, none⟩ = some (.int .i64 a.c3) ∧ w'.cell? ⟨w.heap.size, 4, none⟩ = some (.int .i64 a.c4) ∧ w'.cell? ⟨w.heap.size, 5, none⟩ = some (.int .i64 a.c5) ∧ w'.cell? ⟨w.heap.size, 6, none⟩ = some (.int .i64 a.c6) ∧ w'.cell? ⟨w.heap.size, 7, none⟩ = some (.int .i64 a.c7) ∧ w'.cell? ⟨w.heap.size + 1, 0, none⟩ = some (.int .i64 b.c0) ∧ w'.cell? ⟨w.heap.size + 1, 1, none⟩ = some (.int .i64 b.c1) ∧ w'.cell? ⟨w.heap.size + 1, 2, none⟩ = some (.int .i64 b.c2) ∧ w'.cell? ⟨w.heap.size + 1, 3, none⟩ = some (.int .i64 b.c3) ∧ w'.cell? ⟨w.heap.size + 1, 4, none⟩ = some (.int .i64 b.c4) ∧ w'.cell? ⟨w.heap.size + 1, 5, none⟩ = some (.int .i64 b.c5) ∧ w'.cell? ⟨w.heap.size + 1, 6, none⟩ = some (.int .i64 b.c6) ∧ w'.cell? ⟨w.heap.size + 1, 7, none⟩ = some (.int .i64 b.c7)) (simp [go_sem, *])
       (first
        | (go_at_call 20; refine (toCyc_any _ _).mono ?_; rintro e w' ⟨rfl, hb⟩; obtain ⟨os, d, rfl⟩ := more_of_below hb; clear hb)
        | (go_at_call 21; refine (HI.out _).mono ?_; rintro e w' ⟨rfl, hb⟩; obtain ⟨os, d, rfl⟩ := more_of_below hb; clear hb))
      all_goals
        go_wp2_with fail
        go_meet
        refine ⟨_, rfl, rfl, by repeat' (first | (with_reducible exact Below.refl _ _) | (with_reducible assumption) | (with_reducible refine Below.alloc ?_ ?_ _) | (with_reducible refine below_more ?_ ?_ _ _) | (with_reducible refine below_rd ?_ ?_ _ _) | (with_reducible refine Below.drew ?_) | (with_reducible refine Below.setCell ?_ ?_ _) | go_size), by simp [go_sem, *], by simp [go_sem]⟩
    case rest =>
      obtain ⟨k, rfl, rfl, hb', ⟨hp0, hp1, hp2, hp3⟩, ⟨hk0, hk1, hk2, hk3⟩⟩ := hcut
      have hz2 := hb'.size
      clear hg0 hg1 hg2 hg3 ha0 ha1 ha2 ha3 ha4 ha5 ha6 ha7 hb0 hb1 hb2 hb3 hb4 hb5 hb6 hb7
      cases ok
      all_goals
        go_wp2_with (go_at_call 22; refine (eqSurd_same _ _ _ _ _).mono ?_; rintro e w' ⟨rfl, hb⟩; obtain ⟨os, d, rfl⟩ := more_of_below hb; clear hb)
        go_ret
        exact ⟨rfl, by repeat' (first | (with_reducible exact Below.refl _ _) | (with_reducible assumption) | (with_reducible refine Below.alloc ?_ ?_ _) | (with_reducible refine below_more ?_ ?_ _ _) | (with_reducible refine below_rd ?_ ?_ _ _) | (with_reducible refine Below.drew ?_) | (with_reducible refine Below.setCell ?_ ?_ _) | go_size)⟩

theorem fnExactPolyCross_any (a b : C8) (w : World) :
    Calls Try.prog 4 #[cv a, cv b] w fun e w' => e = .returned (.bool true) ∧ Below w.heap.size w w' :=
  fnExactPolyCross_walk a b _ _ w (fun w => specPolyCross_any a b w) (fun w => polyCross_any a b w)

set_option maxRecDepth 100000 in
theorem fnExactPolyCross_lifted (os : Os) (started : os.Started) (H : Type) (enc : TypeId × Value → H) :
    ReturnsInHanded {} Try.checked os 4 .any (Rows.fnExactPolyCrossSpec.pre6 enc Try.prog Try.f4 Rows.fnExactPolyCrossRow.domain false) (Rows.fnExactPolyCrossSpec.post enc Try.prog Try.f4 false true false false) := by
  refine returnsInHanded_of_change (C := Try.checked) own started (by kernel_rfl) Try.func4
    (ChangeSpec.witness6 (enc := enc) (C := Try.checked) false ⟨#[], #[cv C8.zero, cv C8.zero], []⟩ 8 (by kernel_rfl) (by kernel_rfl) (by kernel_rfl) (by kernel_rfl)) ?_
  intro W base args ds gs before hval0 hW hcnd _
  have hval : ∀ (j : Nat) t v, Try.f4.params[j]? = some t → args[j]? = some v → Value.okWide Try.prog W .any base t v := hval0
  have hW' := hW
  obtain ⟨p, q, hA0, hV, rfl, hfz, hnd⟩ := hW
  have hA : DataW.TrodAll enc Try.prog W 0 (fun _ => true) true Try.f4.params.toList args.toList ds p := hA0
  rw [Try.params4] at hA hval
  obtain ⟨v0, vs0, d0, ds0, p0, q0, hargs, rfl, rfl, h0, r0⟩ := trodAll_cons hA
  obtain ⟨v1, vs1, d1, ds1, p1, q1, rfl, rfl, rfl, h1, r1⟩ := trodAll_cons r0
  obtain ⟨rfl, rfl, rfl⟩ := trodAll_nil r1
  obtain rfl : args = #[v0, v1] := by cases args; simp_all
  obtain ⟨rfl, rfl⟩ := trodVars_none hV
  have k0 := h0
  have lt0 : ∀ x ∈ p0, x.block < W.heap.size := by obtain ⟨m, hm⟩ := k0; exact DataW.trod_lt m _ _ _ hm
  have k1 := h1
  have lt1 : ∀ x ∈ p1, x.block < W.heap.size := by obtain ⟨m, hm⟩ := k1; exact DataW.trod_lt m _ _ _ hm
  obtain ⟨a, rfl⟩ : ∃ x, v0 = cv x := open_cyc (hval 0 35 v0 rfl rfl) h0
  obtain ⟨b, rfl⟩ : ∃ x, v1 = cv x := open_cyc (hval 1 35 v1 rfl rfl) h1
  clear hA0 hval0
  refine (fnExactPolyCross_any a b W).mono fun e W' ⟨he, bel⟩ => ?_
  subst he
  exact ⟨_, rfl, _, _, _, [], _, [], hW', trodAll_mk1 (shut_bool Try.underlying4 _), (trodAll_cons_mk (Below.trod laidOut (by kernel_rfl) (of_decide_eq_true (by kernel_rfl)) k0 bel lt0) (trodAll_cons_mk (Below.trod laidOut (by kernel_rfl) (of_decide_eq_true (by kernel_rfl)) k1 bel lt1) trodAll_mk0)), rfl, bel.frame _, fun h => by cases h⟩

theorem fnExactPolyCross_holds : Rows.FnExactPolyCrossSaid :=
  OpenClaim.holds_of_wide 4 Try.f4 rfl rfl rfl rfl rfl rfl rfl ⟨rfl, rfl, rfl, rfl, rfl⟩ rfl rfl rfl rfl rfl (by kernel_rfl) Try.func4 (by kernel_rfl)
    (of_decide_eq_true (by kernel_rfl)) (by unfold Func.isWrapper; first | (rw [if_pos (by decide +kernel)]; kernel_rfl) | (rw [if_neg (by decide +kernel)]; exact ⟨rfl, rfl⟩))
    (fun os started H enc _ => fnExactPolyCross_lifted os started H enc)
#print axioms fnExactPolyCross_holds
end Go.Proofs.Ytklmlodapinflaa
