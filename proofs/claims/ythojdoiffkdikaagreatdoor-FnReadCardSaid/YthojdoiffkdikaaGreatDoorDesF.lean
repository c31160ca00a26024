/- Tidy designs: the reference's way: the list, what is left of it, and the whole. -/
import Derived.Test.YthojdoiffkdikaaGreatDoorDesE
namespace Go.Proofs.YthojdoiffkdikaaGreatDoor
open Go.RowKit

/-- What the reference's functions on designs give. -/
def SDPost (w : World) (r : Option (List W9)) (e : Ending) (w' : World) : Prop := ∃ (g cap : Nat), e = .returned (.tuple #[.slice (some ⟨g, 0, none⟩) (r.getD []).length cap, .bool r.isSome]) ∧ OwnsW w' w.heap.size (.slice (some ⟨g, 0, none⟩) (r.getD []).length cap) (r.getD []) ∧ Below w.heap.size w w'
theorem SDPost.none {w w' : World} {e : Ending} {r : Option (List W9)} (hr : r = Option.none) (g : Nat) (h : e = .returned (.tuple #[.slice (some ⟨g, 0, .none⟩) 0 0, .bool false])) (ho : OwnsW w' w.heap.size (.slice (some ⟨g, 0, .none⟩) 0 0) []) (hb : Below w.heap.size w w') : SDPost w r e w' := by
  subst hr
  exact ⟨g, 0, h, ho, hb⟩
theorem SDPost.mono {w w0 w' : World} {e : Ending} {r : Option (List W9)} (h : SDPost w r e w') (hb : Below w0.heap.size w0 w) : SDPost w0 r e w' := by
  obtain ⟨g, cap, h1, h2, h3⟩ := h
  exact ⟨g, cap, h1, h2.mono hb.size, hb.trans (h3.mono hb.size)⟩
def doneR (acc : List W9) : Option (List W9) := if dvOk (keepW acc) = true then some (keepW acc) else none
theorem keepW_take {acc : List W9} {k : Nat} (hk : k < acc.length) : keepW (acc.take (k + 1)) = keepW (acc.take k) ++ (if nz (acc.getD k W9.zero) = true then [acc.getD k W9.zero] else []) := by
  rw [keepW, keepW, List.take_add_one, List.filter_append]
  congr 1
  rw [List.getElem?_eq_getElem hk, List.getD_eq_getElem?_getD, List.getElem?_eq_getElem hk]
  simp only [Option.toList, Option.getD]
  by_cases h : nz acc[k] = true
  · rw [if_pos h, List.filter_cons_of_pos h]; rfl
  · rw [if_neg h, List.filter_cons_of_neg h]; rfl
set_option maxRecDepth 100000 in
set_option maxHeartbeats 4000000 in
theorem l5Done_any (g cap : Nat) (acc : List W9) (w : World) (hg : g < w.heap.size) (hl : Lie9 w g 0 acc) (hn : acc.length ≤ 1000) :
    Calls Tryz.prog 100 #[.slice (some ⟨g, 0, none⟩) acc.length cap, .bool true] w (SDPost w (doneR acc)) := by
  have HL := Lib.hid hl
  have hrun := run_neqC
  clear hl
  go_enter Tryz.func100, Tryz.ntmps100
  go_wp2_with fail
  go_loopw [6, 7] (fun s6 s7 wr => ∃ (k g6 c6 : Nat) (out : List W9), k ≤ acc.length ∧ s7 = .int .i64 k ∧ s6 = .slice (some ⟨g6, 0, none⟩) out.length c6 ∧ out.length ≤ k ∧ Hid (out = keepW (acc.take k)) ∧ Hid (OwnsW wr w.heap.size (.slice (some ⟨g6, 0, none⟩) out.length c6) out) ∧ Hid (Below w.heap.size w wr)) (fun _ s7 _ => acc.length - (intOf s7).toNat)
  case atStart => exact ⟨0, _, 0, [], by omega, rfl, rfl, by simp, rfl, OwnsW.empty w (Nat.le_refl _), (Below.refl _ w).alloc (Nat.le_refl _) _⟩
  case round =>
    obtain ⟨k, g6, c6, out, hk, rfl, rfl, hol, hout, how, hbel⟩ := hrel
    have hszw := hbel.out.size
    have hk0 : (0 : Int) ≤ (k : Int) := by omega
    by_cases hlt : k < acc.length
    · have hki : (k : Int) < (acc.length : Int) := by omega
      obtain ⟨y, hy⟩ : ∃ y, acc.getD k W9.zero = y := ⟨_, rfl⟩
      have hly : Lie9 wr g 0 acc := HL.out.below hbel.out hg
      have hwk := hly k hlt
      rw [Nat.zero_add, hy] at hwk
      obtain ⟨c0, a0, a1, a2, a3, a4, a5, a6, a7⟩ := hwk.cells
      have HKT := Lib.hid (keepW_take hlt)
      have HY := Lib.hid hy
      have hgr : g < wr.heap.size := by omega
      clear hly hwk hy
      by_cases hz : nz y = true
      · have hE : (!eqC y.r C8.zero) = true := hz
        have HK2 := Lib.hid (show out ++ [y] = keepW (acc.take (k + 1)) by rw [HKT.out, HY.out, if_pos hz, ← hout.out])
        clear hz
        go_wp2_with (at_builtin; go_must (refine wpList_append_wh rfl _ _ rfl w.heap.size out [y] (.slice (some ⟨g6, 0, none⟩) out.length c6) rfl (how.out.alloc _) wr.heap.size 0 1 1 rfl rfl (Lie9.one (heap_alloc_new _ _)) (by omega) (by omega) (by rw [World.size_alloc]; omega) ?_; intro g4 c4 w4 hown4 hgrow hat hb4; have HO4 := Lib.hid hown4; have HB4 := Lib.hid ((hbel.out.alloc hszw _).trans hb4); clear hown4 hgrow hat hb4))
        go_roundw
        case rel => exact ⟨k + 1, g4, c4, out ++ [y], by omega, by go_num, by rw [List.length_append]; rfl, by rw [List.length_append]; simp; omega, HK2.out, by rw [List.length_append]; exact HO4.out, HB4.out⟩
        case measure => simp [intOf]; omega
      · have hE : (!eqC y.r C8.zero) = false := by rw [Bool.not_eq_true] at hz; exact hz
        have HK2 := Lib.hid (show out = keepW (acc.take (k + 1)) by rw [HKT.out, HY.out, if_neg hz, List.append_nil, ← hout.out])
        clear hz
        go_wp2_with fail
        go_roundw
        case rel => exact ⟨k + 1, g6, c6, out, by omega, by go_num, rfl, by omega, HK2.out, how.out, hbel.out⟩
        case measure => simp [intOf]; omega
    · have hki : decide ((k : Int) < (acc.length : Int)) = false := by rw [decide_eq_false_iff_not]; omega
      have HK2 := Lib.hid (show out = keepW acc by rw [hout.out, List.take_of_length_le (by omega)])
      by_cases hd : dvOk out = true
      · have HR := Lib.hid (show doneR acc = some out by rw [doneR, ← HK2.out, if_pos hd])
        go_wp2_with (go_at_call 66; refine (specDesignValid_any _ _ _ _ how.out.has (by omega)).mono ?_; rintro e w' ⟨rfl, hb⟩; obtain ⟨os, d, rfl⟩ := more_of_below hb; clear hb)
        go_returns
        exact ⟨g6, c6, by rw [HR.out]; rfl, by rw [HR.out]; exact how.out.more _ _, below_more hbel.out hszw _ _⟩
      · rw [Bool.not_eq_true] at hd
        have HR := Lib.hid (show doneR acc = none by rw [doneR, ← HK2.out, hd]; rfl)
        go_wp2_with (go_at_call 66; refine (specDesignValid_any _ _ _ _ how.out.has (by omega)).mono ?_; rintro e w' ⟨rfl, hb⟩; obtain ⟨os, d, rfl⟩ := more_of_below hb; clear hb)
        go_returns
        have hbm := below_more hbel.out hszw os d
        have hbz := hbm.size
        exact SDPost.none HR.out _ rfl (by have h := OwnsW.empty (Go.Proofs.YthojdoiffkdikaaGreatDoor.more wr os d) hbz; rw [size_more] at h; exact h) (hbm.alloc hbz _)
theorem tyS_snoc {acc : List W9} : ∀ {xs : List W9} {b : List W9}, tyS b xs = some acc → ∀ (x : W9) (r : List W9), tyS b (xs ++ x :: r) = if okC (sumAt acc x) = true then tyS (addS acc x) r else none
  | [], b, h, x, r => by
    obtain rfl : b = acc := by rw [tyS] at h; exact Option.some.inj h
    rw [List.nil_append, tyS]
  | y :: xs, b, h, x, r => by
    rw [tyS] at h
    by_cases ho : okC (sumAt b y) = true
    · rw [if_pos ho] at h
      rw [List.cons_append, tyS, if_pos ho]
      exact tyS_snoc h x r
    · rw [if_neg ho] at h; cases h
theorem addS_okC : ∀ {l : List W9} {w : W9}, Srt l → okC (sumAt l w) = true → (∀ z ∈ l, okC z.r = true) → ∀ z ∈ addS l w, okC z.r = true
  | [], w, _, ho, _, z, hz => by
    rw [addS, List.mem_singleton] at hz
    subst hz; exact ho
  | x :: l, w, hs, ho, hb, z, hz => by
    obtain ⟨h1, h2⟩ := List.pairwise_cons.1 hs
    rw [addS] at hz
    by_cases e1 : x.s < w.s
    · rw [if_pos e1] at hz
      rw [sumAt, if_neg (by omega)] at ho
      rcases List.mem_cons.1 hz with rfl | hz
      · exact hb _ (by simp)
      · exact addS_okC h2 ho (fun y hy => hb y (by simp [hy])) z hz
    · rw [if_neg e1] at hz
      by_cases e2 : x.s = w.s
      · rw [if_pos e2] at hz
        rw [sumAt, if_pos e2] at ho
        rcases List.mem_cons.1 hz with rfl | hz
        · exact ho
        · exact hb z (by simp [hz])
      · rw [if_neg e2] at hz
        rcases List.mem_cons.1 hz with rfl | hz
        · rw [sumAt_none] at ho
          · exact ho
          · intro y hy
            rcases List.mem_cons.1 hy with rfl | hy
            · exact e2
            · have := h1 y hy; omega
        · exact hb z hz
theorem addS_len : ∀ (l : List W9) (w : W9), (addS l w).length ≤ l.length + 1
  | [], _ => by simp [addS]
  | x :: l, w => by
    rw [addS]
    have := addS_len l w
    split
    · simp only [List.length_cons]; omega
    · split <;> simp
theorem tyS_srt {acc : List W9} : ∀ {xs : List W9} {b : List W9}, tyS b xs = some acc → Srt b → (∀ z ∈ b, okC z.r = true) → Srt acc ∧ (∀ z ∈ acc, okC z.r = true) ∧ acc.length ≤ b.length + xs.length
  | [], b, h, hs, hb => by
    obtain rfl : b = acc := by rw [tyS] at h; exact Option.some.inj h
    exact ⟨hs, hb, by simp⟩
  | y :: xs, b, h, hs, hb => by
    rw [tyS] at h
    by_cases ho : okC (sumAt b y) = true
    · rw [if_pos ho] at h
      obtain ⟨h1, h2, h3⟩ := tyS_srt h (addS_srt hs) (addS_okC hs ho hb)
      have := addS_len b y
      refine ⟨h1, h2, ?_⟩
      simp only [List.length_cons]; omega
    · rw [if_neg ho] at h; cases h
set_option maxRecDepth 100000 in
set_option maxHeartbeats 4000000 in
theorem l5Tidy_any (a : Option Addr) (cap : Nat) (ds : List W9) (w : World) (h : HasW w a ds) (hn : ds.length ≤ 12) (hok : ∀ y ∈ ds, okC y.r = true) :
    Calls Tryz.prog 67 #[.slice a ds.length cap] w (SDPost w (tdR ds)) := by
  have H := Lib.hid h
  have HOK := Lib.hid hok
  clear h hok
  go_enter Tryz.func67, Tryz.ntmps67
  go_wp2_with fail
  go_loopw [4, 5, 6, 7] (fun s4 s5 _ _ wr => ∃ (k g6 c6 : Nat) (acc : List W9), k ≤ ds.length ∧ s5 = .int .i64 k ∧ s4 = .slice (some ⟨g6, 0, none⟩) acc.length c6 ∧ Hid (tyS [] (ds.take k) = some acc) ∧ Hid (OwnsW wr w.heap.size (.slice (some ⟨g6, 0, none⟩) acc.length c6) acc) ∧ Hid (Below w.heap.size w wr)) (fun _ s5 _ _ _ => ds.length - (intOf s5).toNat)
  case atStart => exact ⟨0, _, 0, [], by omega, rfl, rfl, rfl, OwnsW.empty w (Nat.le_refl _), (Below.refl _ w).alloc (Nat.le_refl _) _⟩
  case round =>
    obtain ⟨k, g6, c6, acc, hk, rfl, rfl, hty, how, hbel⟩ := hrel
    have hszw := hbel.out.size
    have hk0 : (0 : Int) ≤ (k : Int) := by omega
    have HST := Lib.hid (tyS_srt hty.out List.Pairwise.nil (fun z hz => absurd hz (List.not_mem_nil)))
    have hal : acc.length ≤ 12 := by
      have := HST.out.2.2
      simp only [List.length_nil, List.length_take] at this; omega
    have hcapN := OwnsW.capN how.out
    have hg6 : g6 < wr.heap.size := (World.ownsRow.lt how.out g6 rfl).2
    by_cases hlt : k < ds.length
    · have hki : (k : Int) < (ds.length : Int) := by omega
      obtain ⟨x, hx⟩ : ∃ x, ds.getD k W9.zero = x := ⟨_, rfl⟩
      have HX := Lib.hid hx
      have hokx : okC x.r = true := HOK.out x (by rw [← hx]; exact getD_memW hlt)
      have HSN := Lib.hid (show ∀ r, tyS [] (ds.take k ++ x :: r) = if okC (sumAt acc x) = true then tyS (addS acc x) r else none from fun r => tyS_snoc hty.out x r)
      have HTK := Lib.hid (show ds.take (k + 1) = ds.take k ++ x :: [] by
        rw [List.take_add_one, List.getElem?_eq_getElem hlt]
        rw [List.getD_eq_getElem?_getD, List.getElem?_eq_getElem hlt] at hx
        simp only [Option.getD] at hx
        rw [hx]; rfl)
      have HDK := Lib.hid (show ds = ds.take k ++ x :: ds.drop (k + 1) by
        rw [List.getD_eq_getElem?_getD, List.getElem?_eq_getElem hlt] at hx
        simp only [Option.getD] at hx
        rw [← hx, ← List.drop_eq_getElem_cons hlt, List.take_append_drop])
      clear hx
      rcases H.out with rfl | ⟨b, rfl, hb, hp⟩
      · simp at hlt
      · have hwk := (hp k hlt).below hbel.out hb
        rw [HX.out] at hwk
        obtain ⟨c0, a0, a1, a2, a3, a4, a5, a6, a7⟩ := hwk.cells
        clear hwk hp
        by_cases ho : okC (sumAt acc x) = true
        · have HT2 := Lib.hid (show tyS [] (ds.take (k + 1)) = some (addS acc x) by rw [HTK.out, HSN.out, if_pos ho]; rfl)
          go_wp2_with (go_at_call 99; go_must (refine (l5Add_any g6 c6 acc x _ hg6 how.out.lie (by omega) hcapN HST.out.1 HST.out.2.1 hokx).mono ?_; rintro e w3 ⟨g3, c3, rfl, hown3, hb3⟩; rw [ho]; have HO3 := Lib.hid hown3; have HB3 := Lib.hid hb3; clear hown3 hb3))
          go_roundw
          case rel => exact ⟨k + 1, g3, c3, addS acc x, by omega, by go_num, rfl, HT2.out, HO3.out.mono hszw, hbel.out.trans (HB3.out.mono hszw)⟩
          case measure => simp [intOf]; omega
        · rw [Bool.not_eq_true] at ho
          have HR := Lib.hid (show tdR ds = none by rw [tdR, HDK.out, HSN.out, ho]; rfl)
          go_wp2_with (go_at_call 99; go_must (refine (l5Add_any g6 c6 acc x _ hg6 how.out.lie (by omega) hcapN HST.out.1 HST.out.2.1 hokx).mono ?_; rintro e w3 ⟨g3, c3, rfl, hown3, hb3⟩; rw [ho]; have HO3 := Lib.hid hown3; have HB3 := Lib.hid (hbel.out.trans (hb3.mono hszw)); clear hown3 hb3))
          go_returns
          exact SDPost.none HR.out _ rfl (OwnsW.empty _ HB3.out.size) (HB3.out.alloc HB3.out.size _)
    · have hki : decide ((k : Int) < (ds.length : Int)) = false := by rw [decide_eq_false_iff_not]; omega
      have HR := Lib.hid (show tdR ds = doneR acc by
        have h := hty.out
        rw [List.take_of_length_le (by omega)] at h
        rw [tdR, h]; rfl)
      go_wp2_with (go_at_call 100; go_must (refine (l5Done_any g6 c6 acc _ hg6 how.out.lie (by omega)).mono ?_; rintro e w3 hp; have hp2 := hp.mono hbel.out; rw [← HR.out] at hp2; obtain ⟨g3, c3, rfl, ho3, hb3⟩ := hp2; have HO3 := Lib.hid ho3; have HB3 := Lib.hid hb3; clear ho3 hb3 hp))
      go_returns
      exact ⟨g3, c3, rfl, HO3.out, HB3.out⟩
set_option maxRecDepth 100000 in
set_option maxHeartbeats 4000000 in
theorem specDesignTidy_any (a : Option Addr) (cap : Nat) (ds : List W9) (w : World) (h : HasW w a ds) (hn : ds.length ≤ 1048576) :
    Calls Tryz.prog 40 #[.slice a ds.length cap] w (SDPost w (tidyR ds)) := by
  have H := Lib.hid h
  clear h
  by_cases hd : dvOk ds = true
  · have HD := Lib.hid (dvOk_mem hd)
    have HR := Lib.hid (tidyR_yes hd)
    go_enter Tryz.func40, Tryz.ntmps40
    go_wp2_with (first
      | (go_at_call 66; refine (specDesignValid_any _ _ _ _ H.out hn).mono ?_; rintro e w' ⟨rfl, hb⟩; obtain ⟨os, d, rfl⟩ := more_of_below hb; clear hb)
      | (go_at_call 67; go_must (refine (l5Tidy_any _ _ _ _ (H.out.more _ _) HD.out.1 (fun y hy => (HD.out.2 y hy).2)).mono ?_; rintro e w3 hp; have hp2 := hp.mono (below_more (Below.refl _ w) (Nat.le_refl _) os d); rw [← HR.out] at hp2; obtain ⟨g3, c3, rfl, ho3, hb3⟩ := hp2; have HO3 := Lib.hid ho3; have HB3 := Lib.hid hb3; clear ho3 hb3 hp)))
    go_returns
    exact ⟨g3, c3, rfl, HO3.out, HB3.out⟩
  · rw [Bool.not_eq_true] at hd
    have HR := Lib.hid (tidyR_no hd)
    go_enter Tryz.func40, Tryz.ntmps40
    go_wp2_with (go_at_call 66; refine (specDesignValid_any _ _ _ _ H.out hn).mono ?_; rintro e w' ⟨rfl, hb⟩; obtain ⟨os, d, rfl⟩ := more_of_below hb; clear hb)
    go_returns
    have hbm := below_more (Below.refl _ w) (Nat.le_refl _) os d
    have hbz := hbm.size
    exact SDPost.none HR.out _ rfl (by have h := OwnsW.empty (Go.Proofs.YthojdoiffkdikaaGreatDoor.more w os d) hbz; rw [size_more] at h; exact h) (hbm.alloc hbz _)
end Go.Proofs.YthojdoiffkdikaaGreatDoor
