/- PolyArea of the program at whatever list; of the reference. -/
import Derived.Test.YtklmlodapinflaaPolyA
namespace Go.Proofs.Ytklmlodapinflaa
open Go.RowKit Go.Shelf

def paOk (xs : List C8) : Bool := plOk xs && arOk xs
def paR (xs : List C8) : S4 := if paOk xs = true then arL (sidesUpto xs xs.length) else S4.zero
theorem plOk_get {xs : List C8} (h : plOk xs = true) : 1 ≤ xs.length ∧ xs.length ≤ 48 ∧ ∀ k, k < xs.length → SdOk (sideOf xs k) := by
  simp only [plOk, Bool.and_eq_true] at h
  have h1 := inB_iff.1 h.1
  have h2 := pvA_iff.1 h.2
  refine ⟨by omega, by omega, fun k hk => ⟨?_, ?_⟩⟩
  · exact C8.lim_mono (okM_lim (h2 k hk)) (by omega)
  · exact C8.lim_mono (okM_lim (h2 _ (Nat.mod_lt _ (by omega)))) (by omega)
theorem polyArea_any (a : Option Addr) (cap : Nat) (xs : List C8) (w : World) (h : HasP w a xs) (hn : xs.length ≤ 1048576) :
    Calls Try.prog 35 #[.slice a xs.length cap] w fun e w' => e = .returned (.tuple #[sS (paR xs), .bool (paOk xs)]) ∧ Below w.heap.size w w' := by
  rcases Bool.eq_false_or_eq_true (plOk xs) with hv | hv
  · obtain ⟨h1, h2, h3⟩ := plOk_get hv
    rcases h with rfl | ⟨b, rfl, hb, hp⟩
    · simp at h1
    · have e1 : paOk xs = arOk xs := by rw [paOk, hv, Bool.true_and]
      have e2 : paR xs = arR xs := by rw [paR, e1, arR]
      rw [e1, e2]
      exact callsIn_wide.1 (polyArea_in b cap xs hv h3 w hb hp)
  · have HW := Lib.hid h
    have HO := Lib.hid (show paOk xs = false ∧ paR xs = S4.zero from by
      have e : paOk xs = false := by rw [paOk, hv, Bool.false_and]
      exact ⟨e, by rw [paR, e]; rfl⟩)
    go_enter Try.func35, Try.ntmps35
    go_wp2_with (go_at_call 80; refine (polyValid_any _ _ _ _ (HW.out.alloc _) hn).mono ?_; rintro e w' ⟨rfl, hb⟩; obtain ⟨os, d, rfl⟩ := more_of_below hb; clear hb)
    go_returns
    exact ⟨by rw [HO.out.1, HO.out.2]; rfl, by repeat' (first | (with_reducible exact Below.refl _ _) | (with_reducible assumption) | (with_reducible refine Below.alloc ?_ ?_ _) | (with_reducible refine below_more ?_ ?_ _ _) | (with_reducible refine below_rd ?_ ?_ _ _) | (with_reducible refine Below.drew ?_) | (with_reducible refine Below.setCell ?_ ?_ _) | go_size)⟩

theorem arU_lim {xs : List C8} {n : Nat} (h : ∀ k, k < n → SdOk (sideOf xs k)) : ∀ k, k ≤ n → S4.lim (200000000 * k) (arL (sidesUpto xs k))
  | 0, _ => by simp [sidesUpto, arL, S4.lim, S4.zero]
  | k + 1, hk => by
    rw [sidesUpto_succ, arL_snoc]
    have h1 := arU_lim h k (by omega)
    have h2 := crs_bd (h k (by omega)).1 (h k (by omega)).2
    have := S4.add_lim h1 h2
    rw [show 200000000 * ((k + 1 : Nat) : Int) = 200000000 * k + 200000000 by omega]
    exact this
theorem arU_lim48 {xs : List C8} {n : Nat} (h : ∀ k, k < n → SdOk (sideOf xs k)) (hn : n ≤ 48) {k : Nat} (hk : k ≤ n) : S4.lim 10000000000 (arL (sidesUpto xs k)) := by
  have := arU_lim h k hk
  simp only [S4.lim] at *; omega
set_option maxRecDepth 100000 in
set_option maxHeartbeats 4000000 in
theorem specPolyArea_yes (b cap n : Nat) (xs : List C8) (hxn : xs.length = n) (hok : plOk xs = true) (w : World) (hb : b < w.heap.size) (hc : ∀ i, i < n → PtAt w b (i * 8) (xs.getD i C8.zero)) (hSd : ∀ k, k < n → SdOk (sideOf xs k)) (hlen : n ≤ 48) :
    Calls Try.prog 33 #[.slice (some ⟨b, 0, none⟩) n cap] w fun e w' => e = .returned (.tuple #[sS (arR xs), .bool (arOk xs)]) ∧ Below w.heap.size w w' := by
  have HC := Lib.hid hc
  have HS := Lib.hid hSd
  have HN := Lib.hid hxn
  have HP : Hid (HasP w (some ⟨b, 0, none⟩) xs) := Or.inr ⟨b, rfl, hb, fun i hi => hc i (by omega)⟩
  have HV : Hid (∀ w', HasP w' (some ⟨b, 0, none⟩) xs → Calls Try.prog 78 #[.slice (some ⟨b, 0, none⟩) n cap] w' fun e w'' => e = .returned (.bool true) ∧ Below w'.heap.size w' w'') := fun w' h' => by
    have := specPolyValid_any (some ⟨b, 0, none⟩) cap xs w' h' (by omega)
    rw [hok, hxn] at this; exact this
  clear hc hSd hxn hok
  go_enter Try.func33, Try.ntmps33
  go_wp2_with (go_at_call 78; refine (HV.out _ ((HP.out.alloc _).alloc _)).mono ?_; rintro e w' ⟨rfl, hb⟩; obtain ⟨os, d, rfl⟩ := more_of_below hb; clear hb)
  go_loopw [5] (fun s wr => ∃ k : Nat, k ≤ n ∧ s = .int .i64 k ∧ ∃ os d, wr = more ((w.alloc (.cells #[.int .i64 0, .int .i64 0, .int .i64 0, .int .i64 0] 28)).alloc (.cells #[.int .i64 (arL (sidesUpto xs k)).a, .int .i64 (arL (sidesUpto xs k)).b, .int .i64 (arL (sidesUpto xs k)).c, .int .i64 (arL (sidesUpto xs k)).d] 28)) os d) (fun s _ => n - (intOf s).toNat)
  case atStart => exact ⟨0, by omega, rfl, _, _, rfl⟩
  case round =>
    obtain ⟨k, hk, rfl, os, d, rfl⟩ := hrel
    by_cases hlt : k < n
    · obtain ⟨m', hm'⟩ : ∃ m', (k + 1) % n = m' := ⟨_, rfl⟩
      have hm : m' < n := by rw [← hm']; exact Nat.mod_lt _ (by omega)
      have hmI : ((k : Int) + 1) % (n : Int) = (m' : Int) := by rw [← hm']; exact_mod_cast rfl
      obtain ⟨x, hx⟩ : ∃ x, xs.getD k C8.zero = x := ⟨_, rfl⟩
      obtain ⟨y, hy⟩ : ∃ y, xs.getD m' C8.zero = y := ⟨_, rfl⟩
      obtain ⟨s, hs⟩ : ∃ s, arL (sidesUpto xs k) = s := ⟨_, rfl⟩
      have hside : sideOf xs k = (x, y) := by rw [sideOf, HN.out, hm', hx, hy]
      have HSK := Lib.hid (HS.out k hlt)
      have HB := Lib.hid (arU_lim48 HS.out hlen hk)
      have HU := Lib.hid (show arL (sidesUpto xs (k + 1)) = s.add (crs x y) by rw [sidesUpto_succ, arL_snoc, hs, hside])
      rw [hside] at HSK
      rw [hs] at HB ⊢
      have HX := Lib.hid (show PtAt ((w.alloc (.cells #[.int .i64 0, .int .i64 0, .int .i64 0, .int .i64 0] 28)).alloc (.cells #[.int .i64 s.a, .int .i64 s.b, .int .i64 s.c, .int .i64 s.d] 28)) b (k * 8) x by rw [← hx]; exact ptAt_alloc (ptAt_alloc (HC.out k hlt) hb _) (by simp; omega) _)
      have HY := Lib.hid (show PtAt ((w.alloc (.cells #[.int .i64 0, .int .i64 0, .int .i64 0, .int .i64 0] 28)).alloc (.cells #[.int .i64 s.a, .int .i64 s.b, .int .i64 s.c, .int .i64 s.d] 28)) b (m' * 8) y by rw [← hy]; exact ptAt_alloc (ptAt_alloc (HC.out m' hm) hb _) (by simp; omega) _)
      have hbW : b < ((w.alloc (.cells #[.int .i64 0, .int .i64 0, .int .i64 0, .int .i64 0] 28)).alloc (.cells #[.int .i64 s.a, .int .i64 s.b, .int .i64 s.c, .int .i64 s.d] 28)).heap.size := by simp; omega
      have ht : ((k : Int) + 1).tmod (n : Int) = (m' : Int) := by
        rw [Int.tmod_eq_emod_of_nonneg (by omega)]; exact hmI
      have hn00 : ¬ (n : Int) = 0 := by omega
      have hwk : IntKind.i64.wrap ((k : Int) + 1) = (k : Int) + 1 := by rw [IntKind.wrap_i64]; omega
      have B3 := Lib.hid (crs_bd HSK.out.1 HSK.out.2)
      clear hm' hx hy hs hside
      go_wp2_with fail
      refine (wpIn_wide (n := 0)).1 ?_
      refine region_fixedIn (lets_wide 0) (fun w' => ∃ os' d', w' = more ((w.alloc (.cells #[.int .i64 0, .int .i64 0, .int .i64 0, .int .i64 0] 28)).alloc (.cells #[.int .i64 s.a, .int .i64 s.b, .int .i64 s.c, .int .i64 s.d] 28)) os' d') (by kernel_rfl) 15 [sS s, .slice (some ⟨b, 0, none⟩) n cap, .int .i64 k, .pointer (some ⟨b, k * 8, none⟩), cv x, .slice (some ⟨b, 0, none⟩) n cap, .int .i64 k, .int .i64 ((k : Int) + 1), .slice (some ⟨b, 0, none⟩) n cap, .int .i64 n, .int .i64 (m' : Int), .pointer (some ⟨b, m' * 8, none⟩), cv y, sS (crs x y), sv (s.a + (crs x y).a) (s.b + (crs x y).b) (s.c + (crs x y).c) (s.d + (crs x y).d)] (by simp) (by kernel_rfl) (by kernel_rfl) ⟨_, _, rfl⟩ ?_ ?_
      · simp only [List.take_succ_cons, List.take_zero, puts, Act.put, List.setIfInBounds_toArray, List.set_cons_zero, List.set_cons_succ]
        refine ⟨?_, ?_, ?_, ?_, ?_, ?_, ?_, ?_, ?_, ?_, ?_, ?_, ?_, ?_, ?_, trivial⟩
        all_goals
          refine Or.inl ⟨by kernel_rfl, ?_⟩
          rintro w' ⟨os', d', rfl⟩ K hK
        iterate 4
          · go_simp
            try go_wp2_with fail
            with_reducible exact hK.out _ ⟨_, _, rfl⟩
        · refine wp_load_mid 25 (.tmp 20) rfl b (k * 8) rfl (row x).toList _ (HX.out.more hbW os' d') Try.underlying25 rfl infoC8 ?_
          simp only [Act.put, Array.toArray_toList, List.setIfInBounds_toArray, List.set_cons_zero, List.set_cons_succ]
          with_reducible exact hK.out _ ⟨_, _, rfl⟩
        iterate 7
          · go_simp
            try go_wp2_with fail
            with_reducible exact hK.out _ ⟨_, _, rfl⟩
        · refine wp_load_mid 25 (.tmp 28) rfl b (m' * 8) rfl (row y).toList _ (HY.out.more hbW os' d') Try.underlying25 rfl infoC8 ?_
          simp only [Act.put, Array.toArray_toList, List.setIfInBounds_toArray, List.set_cons_zero, List.set_cons_succ]
          with_reducible exact hK.out _ ⟨_, _, rfl⟩
        · go_simp
          (go_at_call 64; refine (l8Cross_any _ _ HSK.out.1 HSK.out.2 _).mono ?_; rintro e w' ⟨rfl, hb⟩; obtain ⟨os, d, rfl⟩ := more_of_below hb; clear hb)
          go_simp
          with_reducible exact hK.out _ ⟨_, _, rfl⟩
        · go_simp
          (go_at_call 79; refine (l3Sum_one _ _ _ _ _ _ _ _ _ (s4w HB.out) (s4w B3.out)).mono ?_; rintro e w' ⟨rfl, hb⟩; obtain ⟨os, d, rfl⟩ := more_of_below hb; clear hb)
          go_simp
          with_reducible exact hK.out _ ⟨_, _, rfl⟩
      · rintro w' ⟨os', d', rfl⟩
        simp only [List.take_succ_cons, List.take_zero, puts, Act.put, List.setIfInBounds_toArray, List.set_cons_zero, List.set_cons_succ, List.drop_succ_cons, List.drop_zero]
        gi_wp2
        go_wp2_with fail
        go_roundw
        case rel => exact ⟨k + 1, by omega, by go_num, _, _, by rw [HU.out]; rfl⟩
        case measure => simp [intOf]; omega
    · obtain rfl : k = n := by omega
      have e1 : arL (sidesUpto xs k) = arL (sidesUpto xs xs.length) := by rw [HN.out]
      obtain ⟨s, hs⟩ : ∃ s, arL (sidesUpto xs k) = s := ⟨_, rfl⟩
      have HE := Lib.hid (show arL (sidesUpto xs xs.length) = s by rw [← e1, hs])
      rw [hs]
      clear e1 hs
      rcases Bool.eq_false_or_eq_true (okT s) with ho | ho
      · have HO := Lib.hid (show okS s.a s.b s.c s.d = true from ho)
        go_wp2_with (go_at_call 58; refine (done_yes _ _ _ _ _ HO.out).mono ?_; rintro e w' ⟨rfl, hb⟩; obtain ⟨os, d, rfl⟩ := more_of_below hb; clear hb)
        go_returns
        exact ⟨by rw [arR, arOk, HE.out, ho]; rfl, by repeat' (first | (with_reducible exact Below.refl _ _) | (with_reducible assumption) | (with_reducible refine Below.alloc ?_ ?_ _) | (with_reducible refine below_more ?_ ?_ _ _) | (with_reducible refine below_rd ?_ ?_ _ _) | (with_reducible refine Below.drew ?_) | (with_reducible refine Below.setCell ?_ ?_ _) | go_size)⟩
      · have HO := Lib.hid (show okS s.a s.b s.c s.d = false from ho)
        go_wp2_with (go_at_call 58; refine (done_no _ _ _ _ _ HO.out).mono ?_; rintro e w' ⟨rfl, hb⟩; obtain ⟨os, d, rfl⟩ := more_of_below hb; clear hb)
        go_returns
        exact ⟨by rw [arR, arOk, HE.out, ho]; rfl, by repeat' (first | (with_reducible exact Below.refl _ _) | (with_reducible assumption) | (with_reducible refine Below.alloc ?_ ?_ _) | (with_reducible refine below_more ?_ ?_ _ _) | (with_reducible refine below_rd ?_ ?_ _ _) | (with_reducible refine Below.drew ?_) | (with_reducible refine Below.setCell ?_ ?_ _) | go_size)⟩
theorem specPolyArea_any (a : Option Addr) (cap : Nat) (xs : List C8) (w : World) (h : HasP w a xs) (hn : xs.length ≤ 1048576) :
    Calls Try.prog 33 #[.slice a xs.length cap] w fun e w' => e = .returned (.tuple #[sS (paR xs), .bool (paOk xs)]) ∧ Below w.heap.size w w' := by
  rcases Bool.eq_false_or_eq_true (plOk xs) with hv | hv
  · obtain ⟨h1, h2, h3⟩ := plOk_get hv
    rcases h with rfl | ⟨b, rfl, hb, hp⟩
    · simp at h1
    · have e1 : paOk xs = arOk xs := by rw [paOk, hv, Bool.true_and]
      have e2 : paR xs = arR xs := by rw [paR, e1, arR]
      rw [e1, e2]
      exact specPolyArea_yes b cap xs.length xs rfl hv w hb hp h3 h2
  · have HW := Lib.hid h
    have HO := Lib.hid (show paOk xs = false ∧ paR xs = S4.zero from by
      have e : paOk xs = false := by rw [paOk, hv, Bool.false_and]
      exact ⟨e, by rw [paR, e]; rfl⟩)
    go_enter Try.func33, Try.ntmps33
    go_wp2_with (go_at_call 78; refine (specPolyValid_any _ _ _ _ ((HW.out.alloc _).alloc _) hn).mono ?_; rintro e w' ⟨rfl, hb⟩; obtain ⟨os, d, rfl⟩ := more_of_below hb; clear hb)
    go_returns
    exact ⟨by rw [HO.out.1, HO.out.2]; rfl, by repeat' (first | (with_reducible exact Below.refl _ _) | (with_reducible assumption) | (with_reducible refine Below.alloc ?_ ?_ _) | (with_reducible refine below_more ?_ ?_ _ _) | (with_reducible refine below_rd ?_ ?_ _ _) | (with_reducible refine Below.drew ?_) | (with_reducible refine Below.setCell ?_ ?_ _) | go_size)⟩
end Go.Proofs.Ytklmlodapinflaa
