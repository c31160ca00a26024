/- Draws of designs: a design, seldom another list. -/
import Derived.Test.YthojdoiffkdikaaGreatDoorDrwB
namespace Go.Proofs.YthojdoiffkdikaaGreatDoor
open Go.RowKit Go.Shelf

/-- What the draw of a design leaves. -/
def Des6 (W : World) (g : Nat) (v : Value) (p : Int) (e : Ending) (w' : World) : Prop :=
  ∃ (xs : List W9) (gx cp : Nat) (p' : Int), e = .returned (.slice (some ⟨gx, 0, none⟩) xs.length cp) ∧ xs.length ≤ 12 ∧ OwnsW w' W.heap.size (.slice (some ⟨gx, 0, none⟩) xs.length cp) xs ∧ p ≤ p' ∧ p' ≤ p + 300 ∧ Rd6 W w' g v p'
theorem Des6.intro {W w' : World} {g : Nat} {v : Value} {p p' : Int} {xs : List W9} {n gx cp : Nat} (hn : xs.length = n) (h12 : n ≤ 12) (ho : OwnsW w' W.heap.size (.slice (some ⟨gx, 0, none⟩) n cp) xs) (h1 : p ≤ p') (h2 : p' ≤ p + 300) (hr : Rd6 W w' g v p') :
    Des6 W g v p (.returned (.slice (some ⟨gx, 0, none⟩) n cp)) w' := by
  subst hn
  exact ⟨xs, gx, cp, p', rfl, h12, ho, h1, h2, hr⟩
theorem run_build_wheel1 (v : Int) (w : World) : (Instr.build 61 #[(0, .int .i64 v)]).run Tryz.prog w = .ok (wv ⟨v, C8.zero⟩) w := by kernel_rfl
theorem wpList_build_wh1 {ops : Array Oper} {rest : List Oper} {op : Oper} {a : Act} {w : World} {Q : Exit → Act → World → Prop} (hgd : op.guard = none) (v : Int) (ho : op.op = .build 61 #[(0, .const (.int .i64 v))])
    (h : wpList Tryz.prog ops Q rest (a.put op.dst (wv ⟨v, C8.zero⟩)) w) : wpList Tryz.prog ops Q (op :: rest) a w := by
  refine wpList_plain hgd fun _ hK => ?_
  unfold Oper.wp execOp
  simp only [ho, List.map_toArray, List.map_cons, List.map_nil, Act.eval, Sem.run_bind, Sem.run_pure, run_build_wheel1, Result.andThen_ok]
  exact hK _ _ h
/-- A row onto itself. -/
theorem wpList_append_self {w : World} {ops : Array Oper} {rest : List Oper} {o : Oper} {a : Act} {Q : Exit → Act → World → Prop} (hgd : o.guard = none) (s x : Operand)
    (ho : o.op = .call { callee := .builtin .append, args := #[s, x], argTypes := #[31, 31] })
    (B : Nat) (xs : List W9) (g n c : Nat) (hn : xs.length = n) (hs : a.eval s = .slice (some ⟨g, 0, none⟩) n c) (hx : a.eval x = .slice (some ⟨g, 0, none⟩) n c) (hown : OwnsW w B (.slice (some ⟨g, 0, none⟩) n c) xs) (h0 : 0 < n) (hle : n + n ≤ 1048576) (hB : B ≤ w.heap.size)
    (h : ∀ g' cap w', OwnsW w' B (.slice (some ⟨g', 0, none⟩) (n + n) cap) (xs ++ xs) → Below B w w' → wpList Tryz.prog ops Q rest (a.put o.dst (.slice (some ⟨g', 0, none⟩) (n + n) cap)) w') :
    wpList Tryz.prog ops Q (o :: rest) a w := by
  subst hn
  exact wpList_append_wh hgd s x ho B xs xs _ hs hown g 0 xs.length c hx rfl hown.lie h0 hle hB fun g' cap w' h1 _ _ h4 => h g' cap w' h1 h4
theorem Rd6.alloc {w wr : World} {g : Nat} {v : Value} {p : Int} (h : Rd6 w wr g v p) (o : Obj) : Rd6 w (wr.alloc o) g v p := h.grow ((Below.refl _ _).alloc (Nat.le_refl _) o)
set_option maxRecDepth 100000 in
set_option maxHeartbeats 4000000 in
theorem l91Design6 {w0 W : World} {B g : Nat} {a : Option Addr} {len cap : Nat} {p : Int} (h : Drw w0 W B g a len cap p) (hp : p ≤ 90000) :
    Calls Tryz.prog 63 #[.pointer (some ⟨g, 0, none⟩)] W (Des6 W g (.slice a len cap) p) := by
  have HD := Lib.hid h
  have hp0 := h.hp
  have hgW := h.lt
  clear h
  go_enter Tryz.func63, Tryz.ntmps63
  go_wp2_with fail
  refine (pick6 (HD.out.grow ((Below.refl _ _).alloc (Nat.le_refl _) _)) 4 (by omega) (by omega) (by omega)).mono ?_
  rintro e w1 ⟨k, rfl, hk0, hk1, hr⟩
  obtain ⟨q, rfl⟩ := Int.eq_ofNat_of_zero_le hk0
  have HR := Lib.hid (((Rd6.refl HD.out.rd).alloc (.cells #[] 61)).trans hr)
  have HO := Lib.hid (hr.owns (OwnsW.empty W (Nat.le_refl _)) hgW)
  clear hr
  go_wp2_with fail
  go_loopw [3, 5] (fun s3 s5 wr => ∃ (i gx cp : Nat) (xs : List W9) (p' : Int), s3 = .slice (some ⟨gx, 0, none⟩) i cp ∧ s5 = .int .i64 i ∧ i ≤ q ∧ Hid (xs.length = i) ∧ p + 1 ≤ p' ∧ p' ≤ p + 1 + 21 * i ∧ Hid (OwnsW wr W.heap.size (.slice (some ⟨gx, 0, none⟩) i cp) xs) ∧ Hid (Rd6 W wr g (.slice a len cap) p')) (fun _ s5 _ => q - (intOf s5).toNat)
  case atStart => exact ⟨0, W.heap.size, 0, [], p + 1, rfl, rfl, by omega, rfl, by omega, by omega, HO.out, HR.out⟩
  case round =>
    obtain ⟨i, gx, cp, xs, p', rfl, rfl, hi, hxl, hp1, hp2, hown, hrd⟩ := hrel
    by_cases hlt : i < q
    · go_wp2_with fail
      refine (pick6 (HD.out.next hrd.out (by omega)) 13 (by omega) (by omega) (by omega)).mono ?_
      rintro e w2 ⟨k2, rfl, hk20, hk21, hr2⟩
      have HR2 := Lib.hid (hrd.out.trans hr2)
      have HO2 := Lib.hid (hr2.owns hown.out hgW)
      clear hr2
      obtain ⟨z, hz⟩ : ∃ z, k2 - 6 = z := ⟨_, rfl⟩
      go_wp2_with fail
      refine (cyc6 (HD.out.next HR2.out (by omega)) (by omega)).mono ?_
      rintro e w3 ⟨c, p3, rfl, hp3, hp4, hr3⟩
      have HR3 := Lib.hid (HR2.out.trans hr3)
      have HO3 := Lib.hid (hr3.owns HO2.out hgW)
      have hW3 : W.heap.size ≤ w3.heap.size := HR3.out.size
      clear hr3
      go_wp2_with (first
        | (with_reducible refine wpList_build_wh (op := ⟨some 20, .build 61 #[(0, .tmp 17), (1, .tmp 19)], _, _, _, _⟩) rfl 17 19 rfl z c rfl rfl ?_)
        | (at_builtin; go_must (refine wpList_append_whL rfl _ _ rfl W.heap.size xs [⟨z, c⟩] (.slice (some ⟨gx, 0, none⟩) i cp) rfl (HO3.out.alloc _) w3.heap.size 0 1 1 (i + 1) (by rw [hxl.out]) rfl rfl (Lie9.one (heap_alloc_new _ _)) (by omega) (by omega) (by rw [World.size_alloc]; omega) ?_; intro g4 c4 w4 hown4 _ _ hb4; have HO4 := Lib.hid hown4; have HR4 := Lib.hid (((HR3.out.alloc (.cells (rowW ⟨z, c⟩) 61)).below hb4 hgW (Nat.le_refl _))); clear hown4 hb4)))
      go_roundw
      case rel => exact ⟨i + 1, g4, c4, xs ++ [(⟨z, c⟩ : W9)], p3, by go_num, by go_num, by omega, by rw [List.length_append, hxl.out]; rfl, by omega, by omega, HO4.out, HR4.out⟩
      case measure => simp [intOf]; omega
    · obtain rfl : i = q := by omega
      go_wp2_with fail
      refine (pick6 (HD.out.next hrd.out (by omega)) 30 (by omega) (by omega) (by omega)).mono ?_
      rintro e w2 ⟨k2, rfl, hk20, hk21, hr2⟩
      have HR2 := Lib.hid (hrd.out.trans hr2)
      have HO2 := Lib.hid (hr2.owns hown.out hgW)
      have hW2 : W.heap.size ≤ w2.heap.size := HR2.out.size
      clear hr2
      by_cases h0 : k2 = 0
      · subst h0
        go_wp2_with (first
          | (with_reducible refine wpList_build_wh1 (op := ⟨some 28, .build 61 #[(0, .const (.int .i64 1001))], _, _, _, _⟩) rfl 1001 rfl ?_)
          | (at_builtin; go_must (refine wpList_append_whL rfl _ _ rfl W.heap.size xs [⟨1001, C8.zero⟩] (.slice (some ⟨gx, 0, none⟩) i cp) rfl (HO2.out.alloc _) w2.heap.size 0 1 1 (i + 1) (by rw [hxl.out]) rfl rfl (Lie9.one (heap_alloc_new _ _)) (by omega) (by omega) (by rw [World.size_alloc]; omega) ?_; intro g4 c4 w4 hown4 _ _ hb4; have HO4 := Lib.hid hown4; have HR4 := Lib.hid (((HR2.out.alloc (.cells (rowW ⟨1001, C8.zero⟩) 61)).below hb4 hgW (Nat.le_refl _))); clear hown4 hb4)))
        go_returns
        exact Des6.intro (by rw [List.length_append, hxl.out]; rfl) (by omega) HO4.out (by omega) (by omega) HR4.out
      · by_cases h1 : k2 = 1
        · subst h1
          by_cases hi0 : i = 0
          · have HA := run_append_wh0 HO2.out (some ⟨gx, 0, none⟩) cp 31
            subst hi0
            go_wp2_with fail
            go_returns
            exact Des6.intro hxl.out (by omega) HO2.out (by omega) (by omega) HR2.out
          · go_wp2_with (first
              | (at_builtin; refine wpList_append_self rfl _ _ rfl W.heap.size xs gx i cp hxl.out rfl rfl HO2.out (by omega) (by omega) hW2 ?_; intro g4 c4 w4 hown4 hb4; have HO4 := Lib.hid hown4; have HR4 := Lib.hid (HR2.out.below hb4 hgW (Nat.le_refl _)); have hW4 : W.heap.size ≤ w4.heap.size := HR4.out.size; clear hown4 hb4)
              | (at_builtin; refine wpList_append_self rfl _ _ rfl W.heap.size (xs ++ xs) g4 (i + i) c4 (by rw [List.length_append, hxl.out]) rfl rfl HO4.out (by omega) (by omega) hW4 ?_; intro g5 c5 w5 hown5 hb5; have HO5 := Lib.hid hown5; have HR5 := Lib.hid (HR4.out.below hb5 hgW (Nat.le_refl _)); clear hown5 hb5))
            go_returns
            exact Des6.intro (by rw [List.length_append, List.length_append, hxl.out]) (by omega) HO5.out (by omega) (by omega) HR5.out
        · go_wp2_with fail
          go_returns
          exact Des6.intro hxl.out (by omega) HO2.out (by omega) (by omega) HR2.out
end Go.Proofs.YthojdoiffkdikaaGreatDoor
