/- laws.FnExactSurdTimes returns true, whatever the two surds. Condition: none. -/
import Derived.Test.YthhdmokocddeiaaSurdD
import Derived.Test.YthhdmokocddeiaaLawA
import Derived.Deep.RegionWith
import Derived.Deep.RegionHeld3
import Derived.Deep.DeepCutAuto
namespace Go.Proofs.Ythhdmokocddeiaa
open Go.ChangeShapes Go.WideShapes Go.ChangeAt Go.RowKit Go.Joins

theorem toSurd_any (a b c d : Int) (w : World) :
    Calls Try.prog 11 #[sv a b c d] w fun e w' => e = .returned (sv a b c d) ∧ Below w.heap.size w w' := by
  go_enter Try.func11, Try.ntmps11
  go_wp2
  go_returns
  exact ⟨rfl, by repeat' (first | (with_reducible exact Below.refl _ _) | (with_reducible assumption) | (with_reducible refine Below.alloc ?_ ?_ _) | (with_reducible refine below_more ?_ ?_ _ _) | (with_reducible refine Below.drew ?_) | (with_reducible refine Below.setCell ?_ ?_ _) | go_size)⟩

theorem eqSurd_same (a b c d : Int) (w : World) :
    Calls Try.prog 13 #[sv a b c d, sv a b c d] w fun e w' => e = .returned (.bool true) ∧ Below w.heap.size w w' := by
  go_enter Try.func13, Try.ntmps13
  go_wp2
  go_ret
  exact ⟨rfl, by repeat' (first | (with_reducible exact Below.refl _ _) | (with_reducible assumption) | (with_reducible refine Below.alloc ?_ ?_ _) | (with_reducible refine below_more ?_ ?_ _ _) | (with_reducible refine Below.drew ?_) | (with_reducible refine Below.setCell ?_ ?_ _) | go_size)⟩


theorem exactSurdTimes_walk (a b c d a' b' c' d' x y z u : Int) (ok : Bool) (w : World)
    (hs : ∀ w, Calls Try.prog 10 #[sv a b c d, sv a' b' c' d'] w fun e w' => e = .returned (.tuple #[sv x y z u, .bool ok]) ∧ Below w.heap.size w w')
    (hi : ∀ w, Calls Try.prog 12 #[sv a b c d, sv a' b' c' d'] w fun e w' => e = .returned (.tuple #[sv x y z u, .bool ok]) ∧ Below w.heap.size w w') :
    Calls Try.prog 3 #[sv a b c d, sv a' b' c' d'] w fun e w' => e = .returned (.bool true) ∧ Below w.heap.size w w' := by
  have HS := Lib.hid hs
  have HI := Lib.hid hi
  clear hs hi
  go_enter Try.func3, Try.ntmps3
  go_upto_region 1 with fail
  go_cut [5, 6] (fun s5 s6 wx => ∃ g : Nat, s5 = .pointer (some ⟨g, 0, none⟩) ∧ s6 = .bool ok ∧ Below w.heap.size w wx ∧ g < wx.heap.size ∧ w.heap.size < wx.heap.size ∧ w.heap.size + 1 < wx.heap.size ∧
     (wx.cell? ⟨g, 0, none⟩ = some (.int .i64 x) ∧ wx.cell? ⟨g, 1, none⟩ = some (.int .i64 y) ∧ wx.cell? ⟨g, 2, none⟩ = some (.int .i64 z) ∧ wx.cell? ⟨g, 3, none⟩ = some (.int .i64 u)) ∧
     (wx.cell? ⟨w.heap.size, 0, none⟩ = some (.int .i64 a) ∧ wx.cell? ⟨w.heap.size, 1, none⟩ = some (.int .i64 b) ∧ wx.cell? ⟨w.heap.size, 2, none⟩ = some (.int .i64 c) ∧ wx.cell? ⟨w.heap.size, 3, none⟩ = some (.int .i64 d)) ∧
     (wx.cell? ⟨w.heap.size + 1, 0, none⟩ = some (.int .i64 a') ∧ wx.cell? ⟨w.heap.size + 1, 1, none⟩ = some (.int .i64 b') ∧ wx.cell? ⟨w.heap.size + 1, 2, none⟩ = some (.int .i64 c') ∧ wx.cell? ⟨w.heap.size + 1, 3, none⟩ = some (.int .i64 d')))
  case first =>
    go_region_held3 (fun w' => w'.cell? ⟨w.heap.size, 0, none⟩ = some (.int .i64 a) ∧ w'.cell? ⟨w.heap.size, 1, none⟩ = some (.int .i64 b) ∧ w'.cell? ⟨w.heap.size, 2, none⟩ = some (.int .i64 c) ∧ w'.cell? ⟨w.heap.size, 3, none⟩ = some (.int .i64 d) ∧ w'.cell? ⟨w.heap.size + 1, 0, none⟩ = some (.int .i64 a') ∧ w'.cell? ⟨w.heap.size + 1, 1, none⟩ = some (.int .i64 b') ∧ w'.cell? ⟨w.heap.size + 1, 2, none⟩ = some (.int .i64 c') ∧ w'.cell? ⟨w.heap.size + 1, 3, none⟩ = some (.int .i64 d')) (simp [go_sem])
     (first
      | (go_at_call 11; refine (toSurd_any _ _ _ _ _).mono ?_; rintro e w' ⟨rfl, hb⟩; obtain ⟨os, d, rfl⟩ := more_of_below hb; clear hb)
      | (go_at_call 10; refine (HS.out _).mono ?_; rintro e w' ⟨rfl, hb⟩; obtain ⟨os, d, rfl⟩ := more_of_below hb; clear hb))
    all_goals
      go_wp2_with fail
      go_meet
      refine ⟨_, rfl, rfl, by repeat' (first | (with_reducible exact Below.refl _ _) | (with_reducible assumption) | (with_reducible refine Below.alloc ?_ ?_ _) | (with_reducible refine below_more ?_ ?_ _ _) | (with_reducible refine Below.drew ?_) | (with_reducible refine Below.setCell ?_ ?_ _) | go_size), by simp [go_sem], by simp [go_sem], by simp [go_sem], by simp [go_sem], by simp [go_sem], by simp [go_sem]⟩
  case rest =>
    obtain ⟨g, rfl, rfl, hb, hg, hz0, hz1, ⟨hg0, hg1, hg2, hg3⟩, ⟨ha0, ha1, ha2, ha3⟩, ⟨hb0, hb1, hb2, hb3⟩⟩ := hcut
    go_upto_region 2 with fail
    go_cut [7, 8] (fun s7 s8 wx => ∃ k : Nat, s7 = .pointer (some ⟨k, 0, none⟩) ∧ s8 = .bool ok ∧ Below w.heap.size w wx ∧
     (wx.cell? ⟨g, 0, none⟩ = some (.int .i64 x) ∧ wx.cell? ⟨g, 1, none⟩ = some (.int .i64 y) ∧ wx.cell? ⟨g, 2, none⟩ = some (.int .i64 z) ∧ wx.cell? ⟨g, 3, none⟩ = some (.int .i64 u)) ∧
     (wx.cell? ⟨k, 0, none⟩ = some (.int .i64 x) ∧ wx.cell? ⟨k, 1, none⟩ = some (.int .i64 y) ∧ wx.cell? ⟨k, 2, none⟩ = some (.int .i64 z) ∧ wx.cell? ⟨k, 3, none⟩ = some (.int .i64 u)))
    case first =>
      go_region_held3 (fun w' => w'.cell? ⟨w.heap.size, 0, none⟩ = some (.int .i64 a) ∧ w'.cell? ⟨w.heap.size, 1, none⟩ = some (.int .i64 b) ∧ w'.cell? ⟨w.heap.size, 2, none⟩ = some (.int .i64 c) ∧ w'.cell? ⟨w.heap.size, 3, none⟩ = some (.int .i64 d) ∧ w'.cell? ⟨w.heap.size + 1, 0, none⟩ = some (.int .i64 a') ∧ w'.cell? ⟨w.heap.size + 1, 1, none⟩ = some (.int .i64 b') ∧ w'.cell? ⟨w.heap.size + 1, 2, none⟩ = some (.int .i64 c') ∧ w'.cell? ⟨w.heap.size + 1, 3, none⟩ = some (.int .i64 d')) (simp [go_sem, *])
       (first
        | (go_at_call 11; refine (toSurd_any _ _ _ _ _).mono ?_; rintro e w' ⟨rfl, hb⟩; obtain ⟨os, d, rfl⟩ := more_of_below hb; clear hb)
        | (go_at_call 12; refine (HI.out _).mono ?_; rintro e w' ⟨rfl, hb⟩; obtain ⟨os, d, rfl⟩ := more_of_below hb; clear hb))
      all_goals
        go_wp2_with fail
        go_meet
        refine ⟨_, rfl, rfl, by repeat' (first | (with_reducible exact Below.refl _ _) | (with_reducible assumption) | (with_reducible refine Below.alloc ?_ ?_ _) | (with_reducible refine below_more ?_ ?_ _ _) | (with_reducible refine Below.drew ?_) | (with_reducible refine Below.setCell ?_ ?_ _) | go_size), by simp [go_sem, *], by simp [go_sem]⟩
    case rest =>
      obtain ⟨k, rfl, rfl, hb', ⟨hg0', hg1', hg2', hg3'⟩, ⟨hk0, hk1, hk2, hk3⟩⟩ := hcut
      have hz2 := hb'.size
      clear hg0 hg1 hg2 hg3 ha0 ha1 ha2 ha3 hb0 hb1 hb2 hb3
      cases ok
      all_goals
        go_wp2_with (go_at_call 13; refine (eqSurd_same _ _ _ _ _).mono ?_; rintro e w' ⟨rfl, hb⟩; obtain ⟨os, d, rfl⟩ := more_of_below hb; clear hb)
        go_ret
        exact ⟨rfl, by repeat' (first | (with_reducible exact Below.refl _ _) | (with_reducible assumption) | (with_reducible refine Below.alloc ?_ ?_ _) | (with_reducible refine below_more ?_ ?_ _ _) | (with_reducible refine Below.drew ?_) | (with_reducible refine Below.setCell ?_ ?_ _) | go_size)⟩

theorem exactSurdTimes_any (a b c d a' b' c' d' : Int) (w : World) :
    Calls Try.prog 3 #[sv a b c d, sv a' b' c' d'] w fun e w' => e = .returned (.bool true) ∧ Below w.heap.size w w' := by
  rcases Bool.eq_false_or_eq_true (stOk a b c d a' b' c' d') with h | h
  · exact exactSurdTimes_walk _ _ _ _ _ _ _ _ _ _ _ _ true w (fun w => specTimes_yes _ _ _ _ _ _ _ _ w h) (fun w => surdTimes_yes _ _ _ _ _ _ _ _ w h)
  · exact exactSurdTimes_walk _ _ _ _ _ _ _ _ _ _ _ _ false w (fun w => specTimes_no _ _ _ _ _ _ _ _ w h) (fun w => surdTimes_no _ _ _ _ _ _ _ _ w h)

set_option maxRecDepth 100000 in
theorem exactSurdTimes_lifted (os : Os) (started : os.Started) (H : Type) (enc : TypeId × Value → H) :
    ReturnsInHanded {} Try.checked os 3 .any (Rows.fnExactSurdTimesSpec.pre6 enc Try.prog Try.f3 Rows.fnExactSurdTimesRow.domain false) (Rows.fnExactSurdTimesSpec.post enc Try.prog Try.f3 false true false false) := by
  refine returnsInHanded_of_change (C := Try.checked) own started (by kernel_rfl) Try.func3
    (ChangeSpec.witness6 (enc := enc) (C := Try.checked) false ⟨#[], #[sv 0 0 0 0, sv 0 0 0 0], []⟩ 8 (by kernel_rfl) (by kernel_rfl) (by kernel_rfl) (by kernel_rfl)) ?_
  intro W base args ds gs before hval0 hW hcnd _
  have hval : ∀ (j : Nat) t v, Try.f3.params[j]? = some t → args[j]? = some v → Value.okWide Try.prog W .any base t v := hval0
  have hW' := hW
  obtain ⟨p, q, hA0, hV, rfl, hfz, hnd⟩ := hW
  have hA : DataW.TrodAll enc Try.prog W 0 (fun _ => true) true Try.f3.params.toList args.toList ds p := hA0
  rw [Try.params3] at hA hval
  obtain ⟨v0, vs0, d0, ds0, p0, q0, hargs, rfl, rfl, h0, r0⟩ := trodAll_cons hA
  obtain ⟨v1, vs1, d1, ds1, p1, q1, rfl, rfl, rfl, h1, r1⟩ := trodAll_cons r0
  obtain ⟨rfl, rfl, rfl⟩ := trodAll_nil r1
  obtain rfl : args = #[v0, v1] := by cases args; simp_all
  obtain ⟨rfl, rfl⟩ := trodVars_none hV
  have k0 := h0
  have k1 := h1
  have lt0 : ∀ x ∈ p0, x.block < W.heap.size := by obtain ⟨m, hm⟩ := k0; exact DataW.trod_lt m _ _ _ hm
  have lt1 : ∀ x ∈ p1, x.block < W.heap.size := by obtain ⟨m, hm⟩ := k1; exact DataW.trod_lt m _ _ _ hm
  obtain ⟨a, b, c, d, rfl⟩ : ∃ a b c d, v0 = sv a b c d := by
    obtain ⟨c0, c1, c2, c3, y0, y1, y2, y3, m, rfl, -, -, hy0, hy1, hy2, hy3⟩ := open_agg4 Try.underlying23 (by kernel_rfl) (by kernel_rfl) (hval 0 23 v0 rfl rfl) h0
    obtain ⟨a, e0, -, wa⟩ := DataW.trod_int Try.underlying3 hy0
    obtain ⟨b, e1, -, wb⟩ := DataW.trod_int Try.underlying3 hy1
    obtain ⟨c, e2, -, wc⟩ := DataW.trod_int Try.underlying3 hy2
    obtain ⟨d, e3, -, wd⟩ := DataW.trod_int Try.underlying3 hy3
    simp at e0 e1 e2 e3
    exact ⟨a, b, c, d, by rw [e0, e1, e2, e3]⟩
  obtain ⟨a', b', c', d', rfl⟩ : ∃ a b c d, v1 = sv a b c d := by
    obtain ⟨c0, c1, c2, c3, y0, y1, y2, y3, m, rfl, -, -, hy0, hy1, hy2, hy3⟩ := open_agg4 Try.underlying23 (by kernel_rfl) (by kernel_rfl) (hval 1 23 v1 rfl rfl) h1
    obtain ⟨a, e0, -, wa⟩ := DataW.trod_int Try.underlying3 hy0
    obtain ⟨b, e1, -, wb⟩ := DataW.trod_int Try.underlying3 hy1
    obtain ⟨c, e2, -, wc⟩ := DataW.trod_int Try.underlying3 hy2
    obtain ⟨d, e3, -, wd⟩ := DataW.trod_int Try.underlying3 hy3
    simp at e0 e1 e2 e3
    exact ⟨a, b, c, d, by rw [e0, e1, e2, e3]⟩
  clear hA0 hval0
  refine (exactSurdTimes_any a b c d a' b' c' d' W).mono fun e W' ⟨he, bel⟩ => ?_
  subst he
  exact ⟨_, rfl, _, _, _, [], _, [], hW', trodAll_mk1 (shut_bool Try.underlying4 _), (trodAll_cons_mk (Below.trod laidOut (by kernel_rfl) (of_decide_eq_true (by kernel_rfl)) k0 bel lt0) (trodAll_cons_mk (Below.trod laidOut (by kernel_rfl) (of_decide_eq_true (by kernel_rfl)) k1 bel lt1) trodAll_mk0)), rfl, bel.frame _, fun h => by cases h⟩

theorem exactSurdTimes_holds : Rows.FnExactSurdTimesSaid :=
  OpenClaim.holds_of_wide 3 Try.f3 rfl rfl rfl rfl rfl rfl rfl ⟨rfl, rfl, rfl, rfl, rfl⟩ rfl rfl rfl rfl rfl (by kernel_rfl) Try.func3 (by kernel_rfl)
    (of_decide_eq_true (by kernel_rfl)) (by unfold Func.isWrapper; first | (rw [if_pos (by decide +kernel)]; kernel_rfl) | (rw [if_neg (by decide +kernel)]; exact ⟨rfl, rfl⟩))
    (fun os started H enc _ => exactSurdTimes_lifted os started H enc)
#print axioms exactSurdTimes_holds
end Go.Proofs.Ythhdmokocddeiaa
