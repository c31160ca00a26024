/- Draws of designs with some symmetry, and of texts of designs. -/
import Derived.Test.YthojdoiffkdikaaGreatDoorDrwC
import Derived.Test.YthojdoiffkdikaaGreatDoorPlotA
namespace Go.Proofs.YthojdoiffkdikaaGreatDoor
open Go.RowKit Go.Shelf Go.PlotT

theorem ring6 (x y : Int) (hx : 6 ≤ x ∧ x ≤ 40) (hy : 6 ≤ y ∧ y ≤ 40) (pen : Int) (hp : -300 ≤ pen ∧ pen ≤ 300) (ins : Bool) (w : World) :
    Calls Tryz.prog 64 #[.int .i64 x, .int .i64 y, .bool ins, .int .i64 pen] w (Ring6 w) := by
  obtain ⟨m, rfl⟩ := Int.eq_ofNat_of_zero_le (show 0 ≤ x by omega)
  obtain ⟨n, rfl⟩ := Int.eq_ofNat_of_zero_le (show 0 ≤ y by omega)
  exact ringDesign_some m n (by omega) (by omega) pen hp ins w
theorem Des6.lift {W w1 w' : World} {g : Nat} {v : Value} {p p1 : Int} {e : Ending} (h : Des6 w1 g v p1 e w') (hr : Rd6 W w1 g v p1) (h1 : p ≤ p1) (h2 : p1 + 300 ≤ p + 600) :
    ∃ (xs : List W9) (gx cp : Nat) (p' : Int), e = .returned (.slice (some ⟨gx, 0, none⟩) xs.length cp) ∧ xs.length ≤ 12 ∧ OwnsW w' W.heap.size (.slice (some ⟨gx, 0, none⟩) xs.length cp) xs ∧ p ≤ p' ∧ p' ≤ p + 600 ∧ Rd6 W w' g v p' := by
  obtain ⟨xs, gx, cp, p', rfl, h12, ho, hp1, hp2, hr'⟩ := h
  exact ⟨xs, gx, cp, p', rfl, h12, ho.mono hr.size, by omega, by omega, hr.trans hr'⟩
/-- What the draw of a design with some symmetry leaves. -/
def Sym6 (W : World) (g : Nat) (v : Value) (p : Int) (e : Ending) (w' : World) : Prop :=
  ∃ (xs : List W9) (gx cp : Nat) (p' : Int), e = .returned (.slice (some ⟨gx, 0, none⟩) xs.length cp) ∧ xs.length ≤ 12 ∧ OwnsW w' W.heap.size (.slice (some ⟨gx, 0, none⟩) xs.length cp) xs ∧ p ≤ p' ∧ p' ≤ p + 600 ∧ Rd6 W w' g v p'
theorem Sym6.intro {W w' : World} {g : Nat} {v : Value} {p p' : Int} {xs : List W9} {n gx cp : Nat} (hn : xs.length = n) (h12 : n ≤ 12) (ho : OwnsW w' W.heap.size (.slice (some ⟨gx, 0, none⟩) n cp) xs) (h1 : p ≤ p') (h2 : p' ≤ p + 600) (hr : Rd6 W w' g v p') :
    Sym6 W g v p (.returned (.slice (some ⟨gx, 0, none⟩) n cp)) w' := by
  subst hn
  exact ⟨xs, gx, cp, p', rfl, h12, ho, h1, h2, hr⟩
set_option maxRecDepth 100000 in
set_option maxHeartbeats 8000000 in
theorem l92Design6 {w0 W : World} {B g : Nat} {a : Option Addr} {len cap : Nat} {p : Int} (h : Drw w0 W B g a len cap p) (hp : p ≤ 80000) :
    Calls Tryz.prog 39 #[.pointer (some ⟨g, 0, none⟩)] W (Sym6 W g (.slice a len cap) p) := by
  have HD := Lib.hid h
  have hp0 := h.hp
  have hgW := h.lt
  clear h
  go_enter Tryz.func39, Tryz.ntmps39
  go_wp2_with fail
  refine (pick6 HD.out 4 (by omega) (by omega) (by omega)).mono ?_
  rintro e w1 ⟨k, rfl, hk0, hk1, hr⟩
  have HR1 := Lib.hid hr
  clear hr
  by_cases h0 : k = 0
  · subst h0
    go_wp2_with fail
    refine (l91Design6 (HD.out.next HR1.out (by omega)) (by omega)).mono ?_
    rintro e w2 h2
    obtain ⟨xs, gx, cp, p', rfl, h12, ho, hp1, hp2, hr'⟩ := h2.lift (p := p) HR1.out (by omega) (by omega)
    have HO2 := Lib.hid ho
    have HR2 := Lib.hid hr'
    obtain ⟨n, hn⟩ : ∃ n, xs.length = n := ⟨_, rfl⟩
    rw [hn] at HO2 ⊢
    have hn12 : n ≤ 12 := by omega
    have HN := Lib.hid hn
    clear h2 ho hr' h12 hn
    go_wp2_with fail
    go_returns
    exact Sym6.intro HN.out hn12 HO2.out (by omega) (by omega) HR2.out
  · by_cases h1 : k = 1
    · subst h1
      go_wp2_with fail
      refine (pick6 (HD.out.next HR1.out (by omega)) 30 (by omega) (by omega) (by omega)).mono ?_
      rintro e w2 ⟨k2, rfl, hk20, hk21, hr2⟩
      have HR2 := Lib.hid (HR1.out.trans hr2)
      clear hr2
      go_wp2_with fail
      refine (pick6 (HD.out.next HR2.out (by omega)) 12 (by omega) (by omega) (by omega)).mono ?_
      rintro e w3 ⟨k3, rfl, hk30, hk31, hr3⟩
      have HR3 := Lib.hid (HR2.out.trans hr3)
      clear hr3
      go_wp2_with fail
      refine (pick6 (HD.out.next HR3.out (by omega)) 2 (by omega) (by omega) (by omega)).mono ?_
      rintro e w4 ⟨k4, rfl, hk40, hk41, hr4⟩
      have HR4 := Lib.hid (HR3.out.trans hr4)
      clear hr4
      go_wp2_with fail
      refine (pick6 (HD.out.next HR4.out (by omega)) 20 (by omega) (by omega) (by omega)).mono ?_
      rintro e w5 ⟨k5, rfl, hk50, hk51, hr5⟩
      have HR5 := Lib.hid (HR4.out.trans hr5)
      clear hr5
      go_wp2_with fail
      refine (ring6 _ _ (by omega) (by omega) _ (by omega) _ _).mono ?_
      rintro e w6 ⟨ds, g6, cp6, b, rfl, h12, ho6, hb6⟩
      have HR6 := Lib.hid (HR5.out.grow hb6)
      have HO6 := Lib.hid (ho6.mono (HR5.out.size))
      obtain ⟨n, hn⟩ : ∃ n, ds.length = n := ⟨_, rfl⟩
      rw [hn] at HO6 h12 ⊢
      have HN := Lib.hid hn
      clear ho6 hb6 hn
      cases b
      · go_wp2_with fail
        have HRT := HR6
        refine (pick6 (HD.out.next HRT.out (by omega)) 4 (by omega) (by omega) (by omega)).mono ?_
        rintro e w7 ⟨k7, rfl, hk70, hk71, hr7⟩
        have HR7 := Lib.hid (HRT.out.trans hr7)
        clear hr7
        go_wp2_with fail
        refine (pick6 (HD.out.next HR7.out (by omega)) 5 (by omega) (by omega) (by omega)).mono ?_
        rintro e w8 ⟨k8, rfl, hk80, hk81, hr8⟩
        have HR8 := Lib.hid (HR7.out.trans hr8)
        clear hr8
        go_wp2_with fail
        refine (pick6 ((HD.out.next HR8.out (by omega)).grow ((Below.refl _ _).alloc (Nat.le_refl _) _)) 3 (by omega) (by omega) (by omega)).mono ?_
        rintro e w9 ⟨k9, rfl, hk90, hk91, hr9⟩
        obtain ⟨q, rfl⟩ := Int.eq_ofNat_of_zero_le hk90
        have HR9 := Lib.hid ((HR8.out.alloc (.cells #[] 61)).trans hr9)
        have HO9 := Lib.hid (hr9.owns (OwnsW.empty w8 HR8.out.size) hgW)
        obtain ⟨gE, hgE⟩ : ∃ x, w8.heap.size = x := ⟨_, rfl⟩
        rw [hgE] at HO9 ⊢
        clear hr9 hgE
        obtain ⟨st, hst⟩ : ∃ x : Int, 1 + k7 = x := ⟨_, rfl⟩
        obtain ⟨fi, hfi⟩ : ∃ x : Int, k8 - 2 = x := ⟨_, rfl⟩
        go_wp2_with fail
        go_loopw [7, 9] (fun s7 s9 wr => ∃ (i gx cp : Nat) (xs : List W9) (p' : Int), s7 = .slice (some ⟨gx, 0, none⟩) i cp ∧ s9 = .int .i64 i ∧ i ≤ q + 1 ∧ Hid (xs.length = i) ∧ p + 1 ≤ p' ∧ p' ≤ p + 10 + 21 * i ∧ Hid (OwnsW wr W.heap.size (.slice (some ⟨gx, 0, none⟩) i cp) xs) ∧ Hid (Rd6 W wr g (.slice a len cap) p')) (fun _ s9 _ => q + 1 - (intOf s9).toNat)
        case atStart => exact ⟨0, gE, 0, [], _, rfl, rfl, by omega, rfl, by omega, by omega, HO9.out, HR9.out⟩
        case round =>
          obtain ⟨i, gx, cp, xs, p', rfl, rfl, hi, hxl, hp1, hp2, hown, hrd⟩ := hrel
          by_cases hlt : i < q + 1
          · go_wp2_with fail
            refine (pick6 (HD.out.next hrd.out (by omega)) 5 (by omega) (by omega) (by omega)).mono ?_
            rintro e wA ⟨kA, rfl, hkA0, hkA1, hrA⟩
            have HRA := Lib.hid (hrd.out.trans hrA)
            have HOA := Lib.hid (hrA.owns hown.out hgW)
            clear hrA
            obtain ⟨kk, hkk⟩ : ∃ x, kA - 2 = x := ⟨_, rfl⟩
            obtain ⟨m, hm⟩ : ∃ x, IntKind.i64.wrap (st * kk) = x := ⟨_, rfl⟩
            obtain ⟨z, hz⟩ : ∃ x, IntKind.i64.wrap (fi + m) = x := ⟨_, rfl⟩
            go_wp2_with fail
            refine (cyc6 (HD.out.next HRA.out (by omega)) (by omega)).mono ?_
            rintro e wB ⟨c, pB, rfl, hpB, hpB2, hrB⟩
            have HRB := Lib.hid (HRA.out.trans hrB)
            have HOB := Lib.hid (hrB.owns HOA.out hgW)
            have hWB : W.heap.size ≤ wB.heap.size := HRB.out.size
            clear hrB
            go_wp2_with (first
              | (with_reducible refine wpList_build_wh (op := ⟨some 61, .build 61 #[(0, .tmp 58), (1, .tmp 60)], _, _, _, _⟩) rfl 58 60 rfl z c rfl rfl ?_)
              | (at_builtin; go_must (refine wpList_append_whL rfl _ _ rfl W.heap.size xs [⟨z, c⟩] (.slice (some ⟨gx, 0, none⟩) i cp) rfl (HOB.out.alloc _) wB.heap.size 0 1 1 (i + 1) (by rw [hxl.out]) rfl rfl (Lie9.one (heap_alloc_new _ _)) (by omega) (by omega) (by rw [World.size_alloc]; omega) ?_; intro g4 c4 w4 hown4 _ _ hb4; have HO4 := Lib.hid hown4; have HR4 := Lib.hid (((HRB.out.alloc (.cells (rowW ⟨z, c⟩) 61)).below hb4 hgW (Nat.le_refl _))); clear hown4 hb4)))
            go_roundw
            case rel => exact ⟨i + 1, g4, c4, xs ++ [(⟨z, c⟩ : W9)], pB, by go_num, by go_num, by omega, by rw [List.length_append, hxl.out]; rfl, by omega, by omega, HO4.out, HR4.out⟩
            case measure => simp [intOf]; omega
          · obtain rfl : i = q + 1 := by omega
            go_wp2_with fail
            go_returns
            exact Sym6.intro hxl.out (by omega) hown.out (by omega) (by omega) hrd.out
      · go_wp2_with fail
        go_returns
        exact Sym6.intro HN.out h12 HO6.out (by omega) (by omega) HR6.out
    · go_wp2_with fail
      have HRT := HR1
      refine (pick6 (HD.out.next HRT.out (by omega)) 4 (by omega) (by omega) (by omega)).mono ?_
      rintro e w7 ⟨k7, rfl, hk70, hk71, hr7⟩
      have HR7 := Lib.hid (HRT.out.trans hr7)
      clear hr7
      go_wp2_with fail
      refine (pick6 (HD.out.next HR7.out (by omega)) 5 (by omega) (by omega) (by omega)).mono ?_
      rintro e w8 ⟨k8, rfl, hk80, hk81, hr8⟩
      have HR8 := Lib.hid (HR7.out.trans hr8)
      clear hr8
      go_wp2_with fail
      refine (pick6 ((HD.out.next HR8.out (by omega)).grow ((Below.refl _ _).alloc (Nat.le_refl _) _)) 3 (by omega) (by omega) (by omega)).mono ?_
      rintro e w9 ⟨k9, rfl, hk90, hk91, hr9⟩
      obtain ⟨q, rfl⟩ := Int.eq_ofNat_of_zero_le hk90
      have HR9 := Lib.hid ((HR8.out.alloc (.cells #[] 61)).trans hr9)
      have HO9 := Lib.hid (hr9.owns (OwnsW.empty w8 HR8.out.size) hgW)
      obtain ⟨gE, hgE⟩ : ∃ x, w8.heap.size = x := ⟨_, rfl⟩
      rw [hgE] at HO9 ⊢
      clear hr9 hgE
      obtain ⟨st, hst⟩ : ∃ x : Int, 1 + k7 = x := ⟨_, rfl⟩
      obtain ⟨fi, hfi⟩ : ∃ x : Int, k8 - 2 = x := ⟨_, rfl⟩
      go_wp2_with fail
      go_loopw [7, 9] (fun s7 s9 wr => ∃ (i gx cp : Nat) (xs : List W9) (p' : Int), s7 = .slice (some ⟨gx, 0, none⟩) i cp ∧ s9 = .int .i64 i ∧ i ≤ q + 1 ∧ Hid (xs.length = i) ∧ p + 1 ≤ p' ∧ p' ≤ p + 10 + 21 * i ∧ Hid (OwnsW wr W.heap.size (.slice (some ⟨gx, 0, none⟩) i cp) xs) ∧ Hid (Rd6 W wr g (.slice a len cap) p')) (fun _ s9 _ => q + 1 - (intOf s9).toNat)
      case atStart => exact ⟨0, gE, 0, [], _, rfl, rfl, by omega, rfl, by omega, by omega, HO9.out, HR9.out⟩
      case round =>
        obtain ⟨i, gx, cp, xs, p', rfl, rfl, hi, hxl, hp1, hp2, hown, hrd⟩ := hrel
        by_cases hlt : i < q + 1
        · go_wp2_with fail
          refine (pick6 (HD.out.next hrd.out (by omega)) 5 (by omega) (by omega) (by omega)).mono ?_
          rintro e wA ⟨kA, rfl, hkA0, hkA1, hrA⟩
          have HRA := Lib.hid (hrd.out.trans hrA)
          have HOA := Lib.hid (hrA.owns hown.out hgW)
          clear hrA
          obtain ⟨kk, hkk⟩ : ∃ x, kA - 2 = x := ⟨_, rfl⟩
          obtain ⟨m, hm⟩ : ∃ x, IntKind.i64.wrap (st * kk) = x := ⟨_, rfl⟩
          obtain ⟨z, hz⟩ : ∃ x, IntKind.i64.wrap (fi + m) = x := ⟨_, rfl⟩
          go_wp2_with fail
          refine (cyc6 (HD.out.next HRA.out (by omega)) (by omega)).mono ?_
          rintro e wB ⟨c, pB, rfl, hpB, hpB2, hrB⟩
          have HRB := Lib.hid (HRA.out.trans hrB)
          have HOB := Lib.hid (hrB.owns HOA.out hgW)
          have hWB : W.heap.size ≤ wB.heap.size := HRB.out.size
          clear hrB
          go_wp2_with (first
            | (with_reducible refine wpList_build_wh (op := ⟨some 61, .build 61 #[(0, .tmp 58), (1, .tmp 60)], _, _, _, _⟩) rfl 58 60 rfl z c rfl rfl ?_)
            | (at_builtin; go_must (refine wpList_append_whL rfl _ _ rfl W.heap.size xs [⟨z, c⟩] (.slice (some ⟨gx, 0, none⟩) i cp) rfl (HOB.out.alloc _) wB.heap.size 0 1 1 (i + 1) (by rw [hxl.out]) rfl rfl (Lie9.one (heap_alloc_new _ _)) (by omega) (by omega) (by rw [World.size_alloc]; omega) ?_; intro g4 c4 w4 hown4 _ _ hb4; have HO4 := Lib.hid hown4; have HR4 := Lib.hid (((HRB.out.alloc (.cells (rowW ⟨z, c⟩) 61)).below hb4 hgW (Nat.le_refl _))); clear hown4 hb4)))
          go_roundw
          case rel => exact ⟨i + 1, g4, c4, xs ++ [(⟨z, c⟩ : W9)], pB, by go_num, by go_num, by omega, by rw [List.length_append, hxl.out]; rfl, by omega, by omega, HO4.out, HR4.out⟩
          case measure => simp [intOf]; omega
        · obtain rfl : i = q + 1 := by omega
          go_wp2_with fail
          go_returns
          exact Sym6.intro hxl.out (by omega) hown.out (by omega) (by omega) hrd.out
end Go.Proofs.YthojdoiffkdikaaGreatDoor
