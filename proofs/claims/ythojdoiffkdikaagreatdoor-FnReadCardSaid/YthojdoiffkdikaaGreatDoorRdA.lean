/- Designs read (the reference): a text cut at a byte, a number. -/
import Derived.Test.YthojdoiffkdikaaGreatDoorReadP
import Derived.Test.YthojdoiffkdikaaGreatDoorOpen
namespace Go.Proofs.YthojdoiffkdikaaGreatDoor
open Go.RowKit Go.PlotT

def CutPost (w : World) (ws : List Wd) (e : Ending) (w' : World) : Prop :=
  ∃ g cap : Nat, e = .returned (.slice (some ⟨g, 0, none⟩) ws.length cap) ∧ OwnsS w' w.heap.size (.slice (some ⟨g, 0, none⟩) ws.length cap) ws ∧ Below w.heap.size w w'
set_option maxRecDepth 100000 in
set_option maxHeartbeats 2000000 in
theorem l13Cut_any (s : ByteArray) (c : UInt8) (hs : s.size ≤ 1048576) (w : World) :
    Calls Tryz.prog 33 #[.string s, .int .u8 c.toNat] w (CutPost w (cutC c s.data.toList)) := by
  have hl : s.data.toList.length ≤ 1048576 := by rw [← Lib.size_eq]; exact hs
  go_enter Tryz.func33, Tryz.ntmps33
  go_wp2_with fail
  go_loopw [5, 6, 7] (fun s3 s4 s5 wr => ∃ (g cap a i : Nat) (done : List Wd), s3 = .slice (some ⟨g, 0, none⟩) done.length cap ∧ s4 = .int .i64 a ∧ s5 = .int .i64 i ∧ i ≤ s.size + 1 ∧ done.length ≤ i ∧ Hid (CutAtC c s.data.toList done a i) ∧ Hid (OwnsS wr w.heap.size (.slice (some ⟨g, 0, none⟩) done.length cap) done) ∧ Below w.heap.size w wr) (fun _ _ s5 _ => s.size + 1 - (intOf s5).toNat)
  case atStart => exact ⟨_, _, 0, 0, [], rfl, rfl, rfl, by omega, by simp, CutAtC.start _, OwnsS.lit _ _ #[] [] (Nat.le_refl _) rfl (by simp) rfl, by repeat' (first | (with_reducible exact Below.refl _ _) | (with_reducible assumption) | (with_reducible refine Below.alloc ?_ ?_ _) | (with_reducible refine below_more ?_ ?_ _ _) | (with_reducible refine below_rd ?_ ?_ _ _) | (with_reducible refine Below.drew ?_) | (with_reducible refine Below.setCell ?_ ?_ _) | go_size)⟩
  case round =>
    obtain ⟨g, cap, a, i, done, rfl, rfl, rfl, hi, hd, hcut, hown, hbel⟩ := hrel
    have hsz := hbel.size
    have hLE : ∀ j, (Value.slice (some ⟨g, 0, none⟩) done.length cap).ownBlock = some j → w.heap.size ≤ j := fun j hj => (World.ownsRow.lt hown.out j hj).1
    have HLE := Lib.hid hLE
    clear hLE
    by_cases hlt : i ≤ s.size
    · have hai := hcut.out.le (by rw [← Lib.size_eq]; exact hlt)
      by_cases he : i = s.size
      · subst he
        have HC2 := Lib.hid (show CutAtC c s.data.toList (done ++ [(s.extract a s.size).data.toList]) (s.size + 1) (s.size + 1) by
          have h := hcut.out
          rw [Lib.size_eq] at h
          have h := h.ends
          rw [← Lib.size_eq] at h
          rw [Lib.extract_data]
          exact h)
        go_wp2_with (at_builtin; go_must (refine wpList_append_words rfl _ _ rfl w.heap.size done [(s.extract a s.size).data.toList] (.slice (some ⟨g, 0, none⟩) done.length cap) rfl (OwnsS.alloc hown.out _) wr.heap.size 1 1 rfl rfl ?_ (by omega) (by omega) (by rw [World.size_alloc]; omega) ?_; (focus (exact one_cell _ _)); intro g2 cap2 w2 hown2 hgrow hat hb2; have HO2 := Lib.hid hown2; have HB2 := Lib.hid (hbel.trans (((Below.refl _ wr).alloc (Nat.le_refl _) _).mono hsz |>.trans hb2)); clear hown2 hgrow hat hb2))
        go_roundw
        case rel => exact ⟨g2, cap2, s.size + 1, s.size + 1, done ++ [(s.extract a s.size).data.toList], by simp, by go_num, by go_num, by omega, by simp; omega, HC2.out, by rw [List.length_append]; exact HO2.out, HB2.out⟩
        case measure => simp [intOf]
      · have hlt2 : i < s.size := by omega
        have hx : s.data.toList[i]? = some (s[i]'hlt2) := by rw [List.getElem?_eq_getElem (by rw [← Lib.size_eq]; exact hlt2)]; rfl
        have e1 : ((i : Int) == (s.size : Int)) = false := by rw [beq_eq_false_iff_ne]; omega
        by_cases hc : s[i]'hlt2 = c
        · have e2 : (((s[i]'hlt2).toNat : Int) == (c.toNat : Int)) = true := by rw [hc]; simp
          rw [hc] at hx
          have HC2 := Lib.hid (show CutAtC c s.data.toList (done ++ [(s.extract a i).data.toList]) (i + 1) (i + 1) by
            rw [Lib.extract_data]
            exact hcut.out.cut hx)
          clear hx hc
          go_wp2_with (at_builtin; go_must (refine wpList_append_words rfl _ _ rfl w.heap.size done [(s.extract a i).data.toList] (.slice (some ⟨g, 0, none⟩) done.length cap) rfl (OwnsS.alloc hown.out _) wr.heap.size 1 1 rfl rfl ?_ (by omega) (by omega) (by rw [World.size_alloc]; omega) ?_; (focus (exact one_cell _ _)); intro g2 cap2 w2 hown2 hgrow hat hb2; have HO2 := Lib.hid hown2; have HB2 := Lib.hid (hbel.trans (((Below.refl _ wr).alloc (Nat.le_refl _) _).mono hsz |>.trans hb2)); clear hown2 hgrow hat hb2))
          go_roundw
          case rel => exact ⟨g2, cap2, i + 1, i + 1, done ++ [(s.extract a i).data.toList], by simp, by go_num, by go_num, by omega, by simp; omega, HC2.out, by rw [List.length_append]; exact HO2.out, HB2.out⟩
          case measure => simp [intOf]; omega
        · have e2 : (((s[i]'hlt2).toNat : Int) == (c.toNat : Int)) = false := by
            rw [beq_eq_false_iff_ne]
            intro e
            exact hc (UInt8.toNat_inj.1 (by omega))
          have HC2 := Lib.hid (hcut.out.on hx hc)
          clear hx hc
          go_wp2_with fail
          go_roundw
          case rel => exact ⟨g, cap, a, i + 1, done, rfl, rfl, by go_num, by omega, by omega, HC2.out, hown, hbel⟩
          case measure => simp [intOf]; omega
    · obtain rfl : i = s.size + 1 := by omega
      have HD := Lib.hid (hcut.out.over (by rw [← Lib.size_eq]; omega))
      go_wp2
      go_returns
      refine ⟨g, cap, ?_, ?_, hbel⟩
      · rw [← HD.out]; rfl
      · rw [← HD.out]; exact hown.out
theorem digN_take {l : Tx} {i : Nat} {b : UInt8} (h : l[i]? = some b) : digN (l.take (i + 1)) = if 48 ≤ b.toNat ∧ b.toNat ≤ 57 then 10 * digN (l.take i) + (b.toNat - 48) else digN (l.take i) := by
  rw [List.take_add_one, h]; exact digN_snoc _ _
def sgAt (l : Tx) (i : Nat) : Int := if i = 0 then 1 else sgN l
theorem digN_take_lt (l : Tx) (i : Nat) (h : i ≤ 9) : digN (l.take i) < 1000000000 := by
  have h1 := digN_lt _ (l.take i) rfl
  rw [List.length_take] at h1
  exact Nat.lt_of_lt_of_le h1 (Nat.pow_le_pow_right (by omega) (by omega : min i l.length ≤ 9))
theorem sgN_cases (l : Tx) : sgN l = 1 ∨ sgN l = -1 := by unfold sgN; split <;> simp
theorem numS_bd (l : Tx) : -1000000000 ≤ numS l ∧ numS l ≤ 1000000000 := by
  have h := digN_take_lt l 9 (Nat.le_refl _)
  unfold numS
  rcases sgN_cases l with e | e <;> rw [e] <;> omega
set_option maxRecDepth 100000 in
set_option maxHeartbeats 2000000 in
theorem l13Number_any (s : ByteArray) (hs : s.size ≤ 1048576) (w : World) :
    Calls Tryz.prog 34 #[.string s] w fun e w' => e = .returned (.int .i64 (numS s.data.toList)) ∧ Below w.heap.size w w' := by
  have hl : s.data.toList.length = s.size := by rw [← Lib.size_eq]
  obtain ⟨l, hl0⟩ : ∃ l, s.data.toList = l := ⟨_, rfl⟩
  have HL0 := Lib.hid hl0
  rw [hl0] at hl ⊢
  have HL := Lib.hid hl
  clear hl hl0
  go_enter Tryz.func34, Tryz.ntmps34
  go_wp2_with fail
  go_loopw [3, 4, 5] (fun s3 s4 s5 wr => ∃ (n i : Nat) (sg : Int), s3 = .int .i64 n ∧ s4 = .int .i64 sg ∧ s5 = .int .i64 i ∧ i ≤ 9 ∧ i ≤ s.size ∧ n < 1000000000 ∧ -1 ≤ sg ∧ sg ≤ 1 ∧ Hid (n = digN (l.take i)) ∧ Hid (sg = sgAt l i) ∧ Below w.heap.size w wr) (fun _ _ s5 _ => 9 - (intOf s5).toNat)
  case atStart => exact ⟨0, 0, 1, rfl, rfl, rfl, by omega, by omega, by omega, by omega, by omega, rfl, rfl, by repeat' (first | (with_reducible exact Below.refl _ _) | (with_reducible assumption) | (with_reducible refine Below.alloc ?_ ?_ _) | (with_reducible refine below_more ?_ ?_ _ _) | (with_reducible refine below_rd ?_ ?_ _ _) | (with_reducible refine Below.drew ?_) | (with_reducible refine Below.setCell ?_ ?_ _) | go_size)⟩
  case round =>
    obtain ⟨n, i, sg, rfl, rfl, rfl, hi9, hi, hn, hs0, hs1, hdg, hsg, hbel⟩ := hrel
    by_cases hlt : i < s.size ∧ i < 9
    · obtain ⟨hlt, h9⟩ := hlt
      have hx : l[i]? = some (s[i]'hlt) := by rw [← HL0.out, List.getElem?_eq_getElem (by rw [← Lib.size_eq]; exact hlt)]; rfl
      obtain ⟨b, hb⟩ : ∃ b, s[i]'hlt = b := ⟨_, rfl⟩
      rw [hb] at hx
      have hbl : b.toNat < 256 := b.toNat_lt
      have hd2 := digN_take hx
      have hlt3 := digN_take_lt l (i + 1) (by omega)
      have hsgS : sgAt l (i + 1) = if i = 0 ∧ b.toNat = 45 then -1 else sgAt l i := by
        unfold sgAt
        rw [if_neg (by omega)]
        by_cases h0 : i = 0
        · subst h0
          rw [if_pos rfl]
          have e : l.head? = some b := by rw [← hx]; cases l <;> rfl
          unfold sgN
          rw [e]
          by_cases h45 : b.toNat = 45
          · rw [if_pos (by rw [show b = 45 from UInt8.toNat_inj.1 h45]), if_pos ⟨rfl, h45⟩]
          · rw [if_neg (fun h => h45 (by rw [Option.some.inj h]; rfl)), if_neg (fun h => h45 h.2)]
        · rw [if_neg h0, if_neg (fun h => h0 h.1)]
      have hli : (i : Int) < (s.size : Int) := by omega
      have h9i : (i : Int) < 9 := by omega
      by_cases hA : i = 0 ∧ b.toNat = 45
      · obtain ⟨h0, h45⟩ := hA
        have hcmp : (((s[i]'hlt).toNat : Int) == 45) = true := by rw [hb, h45]; rfl
        have hz : ((i : Int) == 0) = true := by rw [h0]; rfl
        have HD := Lib.hid (show n = digN (l.take (i + 1)) by rw [hd2, if_neg (by omega)]; exact hdg.out)
        have HS := Lib.hid (show (-1 : Int) = sgAt l (i + 1) by rw [hsgS, if_pos ⟨h0, h45⟩])
        clear hx hd2 hlt3 hsgS hb h0
        go_wp2_with fail
        go_roundw
        case rel => exact ⟨n, i + 1, -1, rfl, rfl, by go_num, by omega, by omega, hn, by omega, by omega, HD.out, HS.out, hbel⟩
        case measure => simp [intOf]; omega
      · have hAb : (((i : Int) == 0) = false) ∨ ((i : Int) == 0) = true ∧ ((b.toNat : Int) == 45) = false := by
          rcases Classical.em (i = 0) with h | h
          · refine Or.inr ⟨by rw [h]; rfl, ?_⟩
            rw [beq_eq_false_iff_ne]
            intro e; exact hA ⟨h, by omega⟩
          · exact Or.inl (by rw [beq_eq_false_iff_ne]; omega)
        have HS := Lib.hid (show sg = sgAt l (i + 1) by rw [hsgS, if_neg hA]; exact hsg.out)
        by_cases hdig : 48 ≤ b.toNat ∧ b.toNat ≤ 57
        · have hge : (48 : Int) ≤ (b.toNat : Int) := by omega
          have hle : (b.toNat : Int) ≤ 57 := by omega
          rw [if_pos hdig] at hd2
          have HD := Lib.hid (show 10 * n + (b.toNat - 48) = digN (l.take (i + 1)) by rw [hd2, hdg.out])
          have hn2 : 10 * n + (b.toNat - 48) < 1000000000 := by rw [HD.out]; exact hlt3
          have hw1 : IntKind.u8.wrap ((b.toNat : Int) - 48) = ((b.toNat - 48 : Nat) : Int) := by rw [IntKind.wrap_u8]; omega
          have hw2 : IntKind.i64.wrap (10 * (n : Int)) = 10 * (n : Int) := IntWalk.i64_in _ (by omega)
          have hw3 : IntKind.i64.wrap ((b.toNat - 48 : Nat) : Int) = ((b.toNat - 48 : Nat) : Int) := IntWalk.i64_in _ (by omega)
          have hw4 : IntKind.i64.wrap (10 * (n : Int) + ((b.toNat - 48 : Nat) : Int)) = ((10 * n + (b.toNat - 48) : Nat) : Int) := by rw [IntWalk.i64_in _ (by omega)]; omega
          clear hx hd2 hlt3 hsgS hdig
          rcases hAb with hz | ⟨hz, hcmp⟩
          all_goals
            go_wp2_with fail
            go_roundw
            case rel => exact ⟨10 * n + (b.toNat - 48), i + 1, sg, by refine congrArg (Value.int IntKind.i64) ?_; omega, rfl, by go_num, by omega, by omega, hn2, by omega, by omega, HD.out, HS.out, hbel⟩
            case measure => simp [intOf]; omega
        · rw [if_neg hdig] at hd2
          have HD := Lib.hid (show n = digN (l.take (i + 1)) by rw [hd2]; exact hdg.out)
          have hno : ((48 : Int) ≤ (b.toNat : Int) ∧ (57 : Int) < (b.toNat : Int)) ∨ (b.toNat : Int) < 48 := by omega
          clear hx hd2 hlt3 hsgS hdig
          rcases hAb with hz | ⟨hz, hcmp⟩ <;> rcases hno with ⟨hge, hgt⟩ | hlo
          all_goals
            go_wp2_with fail
            go_roundw
            case rel => exact ⟨n, i + 1, sg, rfl, rfl, by go_num, by omega, by omega, hn, by omega, by omega, HD.out, HS.out, hbel⟩
            case measure => simp [intOf]; omega
    · have hend : (s.size : Int) ≤ (i : Int) ∨ ((i : Int) < (s.size : Int) ∧ (9 : Int) ≤ (i : Int)) := by omega
      have HN := Lib.hid (show sg * (n : Int) = numS l by
        have e1 : l.take i = l.take 9 := by
          rcases Nat.lt_or_ge i s.size with h | h
          · rw [show i = 9 by omega]
          · rw [List.take_of_length_le (by have := HL.out; omega), List.take_of_length_le (by have := HL.out; omega)]
        rw [hdg.out, hsg.out, e1, numS]
        unfold sgAt
        split
        · next h0 =>
          have e2 : l = [] := List.length_eq_zero_iff.1 (by have := HL.out; omega)
          rw [e2]; rfl
        · rfl)
      have hbd := numS_bd l
      have hw : IntKind.i64.wrap (sg * (n : Int)) = numS l := by rw [HN.out]; exact IntWalk.i64_in _ (by omega)
      rcases hend with h | ⟨h, h2⟩
      all_goals
        go_wp2_with fail
        go_returns
        exact ⟨rfl, hbel⟩
end Go.Proofs.YthojdoiffkdikaaGreatDoor
