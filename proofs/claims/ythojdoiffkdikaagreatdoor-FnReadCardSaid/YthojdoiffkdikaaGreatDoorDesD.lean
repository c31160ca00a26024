/- Tidy designs: DesignTidy of the program. -/
import Derived.Test.YthojdoiffkdikaaGreatDoorDesC
namespace Go.Proofs.YthojdoiffkdikaaGreatDoor
open Go.RowKit

theorem mkWheel0 (n : Nat) (h : n ≤ 1048576) (w : World) : (Instr.makeSlice 31 (.int .i64 0) (.int .i64 (n : Int))).run Tryz.prog w = .ok (.slice (some ⟨w.heap.size, 0, none⟩) 0 n) (w.alloc (.cells (rowsW (List.replicate n W9.zero)) 61)) := by
  have h0 := zeroW9
  cases hq : Tryz.prog.info? 61 with
  | none => rw [hq] at h0; cases h0
  | some i =>
    rw [hq] at h0
    simp only [Option.map_some, Option.some.injEq, Prod.mk.injEq] at h0
    have := run_make (P := Tryz.prog) w 31 61 i (wv W9.zero) Tryz.underlying31 hq h0.1 .i64 .i64 0 n (by omega) (by omega) (by rw [h0.2.2]; omega) (by omega)
    rw [this, h0.2.1]
    simp only [Int.toNat_natCast, Int.toNat_zero]
    rw [show (wv W9.zero).cells = rowW W9.zero from rfl, made_wheels]
theorem OwnsW.made0 (w : World) (B n : Nat) (hB : B ≤ w.heap.size) (hn : n ≤ 1048576) : OwnsW (w.alloc (.cells (rowsW (List.replicate n W9.zero)) 61)) B (.slice (some ⟨w.heap.size, 0, none⟩) 0 n) [] := by
  refine ⟨by rw [rowsWL_len]; rfl, Or.inr ⟨w.heap.size, n, _, rfl, hB, heap_alloc_new _ _, Nat.zero_le _, by unfold maxLen; omega, by rw [rowsW_size]; simp; omega, ?_⟩⟩
  simp [rowsW]
set_option maxHeartbeats 1000000 in
theorem designTidy1_any (x : W9) (w : World) :
    Calls Tryz.prog 43 #[wv x] w fun e w' => e = .returned (wv x) ∧ Below w.heap.size w w' := by
  go_enter Tryz.func43, Tryz.ntmps43
  go_wp2_with fail
  go_returns
  exact ⟨rfl, by repeat' (first | (with_reducible exact Below.refl _ _) | (with_reducible assumption) | (with_reducible refine Below.alloc ?_ ?_ _) | (with_reducible refine below_more ?_ ?_ _ _) | (with_reducible refine below_rd ?_ ?_ _ _) | (with_reducible refine Below.drew ?_) | (with_reducible refine Below.setCell ?_ ?_ _) | go_size)⟩
theorem tidyR_no {ds : List W9} (h : dvOk ds = false) : tidyR ds = none := by rw [tidyR, if_neg (by rw [h]; decide)]
theorem tidyR_yes {ds : List W9} (h : dvOk ds = true) : tidyR ds = tdR ds := by rw [tidyR, if_pos h]
theorem dvOk_mem {ds : List W9} (h : dvOk ds = true) : ds.length ≤ 12 ∧ ∀ x ∈ ds, (-1000 ≤ x.s ∧ x.s ≤ 1000) ∧ okC x.r = true := by
  simp only [dvOk, Bool.and_eq_true, decide_eq_true_eq, okAllW, List.all_eq_true, okW] at h
  exact ⟨h.1, fun x hx => ⟨inB_iff.1 (h.2 x hx).1, (h.2 x hx).2⟩⟩
set_option maxRecDepth 100000 in
set_option maxHeartbeats 4000000 in
theorem changed_any (a : Option Addr) (cap : Nat) (ds : List W9) (w : World) (h : HasW w a ds) (hn : ds.length ≤ 1048576) :
    Calls Tryz.prog 42 #[.slice a ds.length cap, .func (.func 43) #[] #[]] w (DesPost w (tidyR ds)) := by
  have H := Lib.hid h
  clear h
  rcases Bool.eq_false_or_eq_true (dvOk ds) with hv | hv
  · obtain ⟨h12, hds⟩ := dvOk_mem hv
    have HT := Lib.hid (tidyR_yes hv)
    have HV := Lib.hid hv
    have HDS := Lib.hid (fun x hx => (hds x hx).2 : ∀ x ∈ ds, okC x.r = true)
    clear hv hds
    have hmk := mkWheel0 ds.length (by omega)
    go_enter Tryz.func42, Tryz.ntmps42
    go_wp2_with (go_at_call 69; go_must (refine (designValid_any _ _ _ _ H.out hn).mono ?_; rintro e w1 ⟨rfl, hb⟩; rw [HV.out]; have HB1 := Lib.hid hb; clear hb))
    have hsz1 := HB1.out.size
    go_loopw [6, 17] (fun s6 s17 wr => ∃ k g c : Nat, k ≤ ds.length ∧ s17 = .int .i64 k ∧ s6 = .slice (some ⟨g, 0, none⟩) k c ∧ Hid (OwnsW wr w.heap.size (.slice (some ⟨g, 0, none⟩) k c) (ds.take k)) ∧ Hid (Below w.heap.size w wr)) (fun _ s17 _ => ds.length - (intOf s17).toNat)
    case atStart => exact ⟨0, _, _, by omega, rfl, rfl, OwnsW.made0 w1 _ _ hsz1 (by omega), HB1.out.alloc hsz1 _⟩
    case round =>
      obtain ⟨k, g, c, hk, rfl, rfl, hown, hbel⟩ := hrel
      have hsz := hbel.out.size
      have hlk : (ds.take k).length = k := by rw [List.length_take]; omega
      have HLK := Lib.hid hlk
      clear hlk
      by_cases hlt : k < ds.length
      · rcases H.out with h0 | ⟨b, rfl, hb, hp⟩
        · rw [h0] at hlt; simp at hlt
        have hpk := (hp k hlt).below hbel.out hb
        obtain ⟨x, hxk⟩ : ∃ x, ds.getD k W9.zero = x := ⟨_, rfl⟩
        rw [hxk] at hpk
        have HX := Lib.hid hxk
        have HK := Lib.hid hpk
        clear hpk hxk hp
        have HAP := Lib.hid (show ds.take (k + 1) = ds.take k ++ [x] by
          rw [List.take_succ_eq_append_getElem hlt]
          congr 2
          rw [← HX.out, List.getD_eq_getElem?_getD, List.getElem?_eq_getElem hlt]; rfl)
        go_wp2_with (first
          | ((with_reducible refine wpList_load_wh (op := ⟨some 20, .load 61 (.tmp 19), _, _, _, _⟩) rfl _ _ rfl b (k * 9) _ HK.out _ Tryz.underlying61 rfl infoW9 ?_ ?_); (focus rfl))
          | (go_at_call 43; go_must (refine (designTidy1_any _ _).mono ?_; rintro e w2 ⟨rfl, hb2⟩; have HO2 := Lib.hid ((hown.out.alloc (.cells (rowW x) 61)).keep hb2); have HB2 := Lib.hid ((hbel.out.alloc hsz (.cells (rowW x) 61)).trans (hb2.mono (hbel.out.alloc hsz (.cells (rowW x) 61)).size)); have hsz2 := HB2.out.size; clear hb2))
          | (at_builtin; go_must (refine wpList_append_wh rfl _ _ rfl w.heap.size (ds.take k) [x] (.slice (some ⟨g, 0, none⟩) k c) rfl (HO2.out.alloc _) w2.heap.size 0 1 1 rfl rfl (Lie9.one (heap_alloc_new _ _)) (by omega) (by rw [HLK.out]; omega) (by rw [World.size_alloc]; omega) ?_; intro g4 c4 w4 hown4 hgrow hat hb4; have HO4 := Lib.hid hown4; have HB4 := Lib.hid ((HB2.out.alloc hsz2 _).trans hb4); clear hown4 hgrow hat hb4)))
        go_roundw
        case rel => exact ⟨k + 1, g4, c4, by omega, by go_num, rfl, (by rw [HAP.out]; have h := HO4.out; rw [HLK.out] at h; exact h), HB4.out⟩
        case measure => simp [intOf]; omega
      · obtain rfl : k = ds.length := by omega
        have ho := hown.out
        rw [List.take_length] at ho
        have HO := Lib.hid ho
        clear ho
        go_wp2_with (go_at_call 70; go_must (refine (tidied_some (some ⟨g, 0, none⟩) c ds _ HO.out.has HDS.out h12).mono ?_; rintro e w5 ⟨v, rfl, hv5, hb5⟩; have HV5 := Lib.hid hv5; have HB5 := Lib.hid (hbel.out.trans (hb5.mono hsz)); clear hv5 hb5))
        go_returns
        exact ⟨v, by rw [HT.out]; rfl, by rw [HT.out]; exact HV5.out.mono hsz, HB5.out⟩
  · have HT := Lib.hid (tidyR_no hv)
    have HV := Lib.hid hv
    clear hv
    go_enter Tryz.func42, Tryz.ntmps42
    go_wp2_with (go_at_call 69; go_must (refine (designValid_any _ _ _ _ H.out hn).mono ?_; rintro e w1 ⟨rfl, hb⟩; rw [HV.out]; have HB1 := Lib.hid hb; clear hb))
    go_returns
    exact ⟨.slice none 0 0, by rw [HT.out]; rfl, by rw [HT.out]; exact Or.inl ⟨rfl, rfl⟩, HB1.out⟩
theorem designTidy_any (a : Option Addr) (cap : Nat) (ds : List W9) (w : World) (h : HasW w a ds) (hn : ds.length ≤ 1048576) :
    Calls Tryz.prog 19 #[.slice a ds.length cap] w (DesPost w (tidyR ds)) := by
  have H := Lib.hid h
  clear h
  go_enter Tryz.func19, Tryz.ntmps19
  go_wp2_with (go_at_call 42; go_must (refine (changed_any _ _ _ _ H.out hn).mono ?_; rintro e w1 ⟨v, rfl, hv, hb⟩; have HV := Lib.hid hv; have HB := Lib.hid hb; clear hv hb))
  go_returns
  exact ⟨v, rfl, HV.out, HB.out⟩
end Go.Proofs.YthojdoiffkdikaaGreatDoor
