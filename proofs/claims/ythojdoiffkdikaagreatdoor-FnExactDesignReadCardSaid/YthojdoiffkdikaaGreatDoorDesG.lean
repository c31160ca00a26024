/- Numbers as texts: the reference's way. -/
import Derived.Test.YthojdoiffkdikaaGreatDoorDesF
import Derived.Laws.IdiomStrings
import Derived.BigQuiet
import Derived.Deep.RegionWith
namespace Go.Proofs.YthojdoiffkdikaaGreatDoor
open Go.RowKit

theorem conv_at (b : Nat) (c : UInt8) (n : Int) (hn : (c.toNat : Int) = n) (w : World) (h : w.cell? ⟨b, 0, none⟩ = some (.int .u8 n)) :
    (convert 22 9 (.slice (some ⟨b, 0, none⟩) 1 1)).run Tryz.prog w = .ok (.string ⟨#[c]⟩) w := by
  refine run_convert_bytes_back (P := Tryz.prog) _ 22 9 5 ⟨b, 0, none⟩ 1 [c] Tryz.underlying22 Tryz.underlying5 Tryz.underlying9 ?_
  intro j hj
  obtain rfl : j = 0 := by simp at hj; omega
  show w.cell? ⟨b, 0, none⟩ = _
  rw [h, ← hn]; rfl
theorem mk_append (a b : List UInt8) : (⟨a.toArray⟩ : ByteArray) ++ ⟨b.toArray⟩ = ⟨(a ++ b).toArray⟩ := by
  apply ByteArray.ext
  simp
theorem nDigits_le : ∀ (k u : Nat), u < 10 ^ (k + 1) → Lib.nDigits u ≤ k + 1
  | 0, u, h => by rw [Lib.nDigits_small (by simpa using h)]; omega
  | k + 1, u, h => by
    by_cases h10 : u < 10
    · rw [Lib.nDigits_small h10]; omega
    · rw [Lib.nDigits_big h10]
      have := nDigits_le k (u / 10) (by rw [Nat.pow_succ] at h; omega)
      omega
theorem dec_len (n : Nat) (hn : n ≤ 1000000000) : (Lib.decDigits n).length ≤ 10 := by
  rw [Lib.decDigits_length]; exact nDigits_le 9 n (by omega)
theorem dec_size (n : Nat) (hn : n ≤ 1000000000) : (⟨(Lib.decDigits n).toArray⟩ : ByteArray).size ≤ 4194304 := by
  have := dec_len n hn
  show (Lib.decDigits n).toArray.size ≤ _
  rw [List.size_toArray]; omega
set_option maxRecDepth 100000 in
set_option maxHeartbeats 4000000 in
theorem l6Dec_nat : ∀ (n : Nat), n ≤ 1000000000 → ∀ w : World, Calls Tryz.prog 71 #[.int .i64 n] w fun e w' => e = .returned (.string ⟨(Lib.decDigits n).toArray⟩) ∧ Below w.heap.size w w' := by
  intro n
  induction n using Nat.strongRecOn with
  | ind n ih =>
  intro hn w
  have h1 : decide ((n : Int) < -9223372036854775807) = false := by rw [decide_eq_false_iff_not]; omega
  have h2 : decide ((n : Int) < 0) = false := by rw [decide_eq_false_iff_not]; omega
  by_cases h10 : n < 10
  · have h3 : (n : Int) < 10 := by omega
    have hw1 : IntKind.i64.wrap (48 + (n : Int)) = 48 + (n : Int) := IntWalk.i64_in _ (by omega)
    have hwu : IntKind.u8.wrap (48 + (n : Int)) = 48 + (n : Int) := IntWalk.u8_in _ (by omega)
    obtain ⟨c, hc⟩ : ∃ c, UInt8.ofNat (48 + n) = c := ⟨_, rfl⟩
    have hcv := conv_at w.heap.size c (48 + (n : Int)) (by rw [← hc, UInt8.toNat_ofNat_of_lt' (by show 48 + n < 256; omega)]; omega)
    have HC := Lib.hid (show Lib.decDigits n = [c] by rw [Lib.decDigits, dif_pos h10, hc])
    clear hc
    go_enter Tryz.func71, Tryz.ntmps71
    go_wp2_with fail
    go_returns
    exact ⟨by rw [HC.out]; rfl, by repeat' (first | (with_reducible exact Below.refl _ _) | (with_reducible assumption) | (with_reducible refine Below.alloc ?_ ?_ _) | (with_reducible refine below_more ?_ ?_ _ _) | (with_reducible refine below_rd ?_ ?_ _ _) | (with_reducible refine Below.drew ?_) | (with_reducible refine Below.setCell ?_ ?_ _) | go_size)⟩
  · have h3 : decide ((n : Int) < 10) = false := by rw [decide_eq_false_iff_not]; omega
    have hm : n % 10 < 10 := Nat.mod_lt _ (by omega)
    obtain ⟨q, hq⟩ : ∃ q, n / 10 = q := ⟨_, rfl⟩
    obtain ⟨r, hr⟩ : ∃ r, n % 10 = r := ⟨_, rfl⟩
    have hq1 : (n : Int).tdiv 10 = (q : Int) := by rw [← hq]; rfl
    have hr1 : (n : Int).tmod 10 = (r : Int) := by rw [← hr]; rfl
    have hq2 : IntKind.i64.wrap (q : Int) = (q : Int) := IntWalk.i64_in _ (by omega)
    have hr2 : IntKind.i64.wrap (r : Int) = (r : Int) := IntWalk.i64_in _ (by omega)
    have hw1 : IntKind.i64.wrap (48 + (r : Int)) = 48 + (r : Int) := IntWalk.i64_in _ (by omega)
    have hwu : IntKind.u8.wrap (48 + (r : Int)) = 48 + (r : Int) := IntWalk.u8_in _ (by omega)
    obtain ⟨c, hc⟩ : ∃ c, UInt8.ofNat (48 + r) = c := ⟨_, rfl⟩
    have hcv := fun b => conv_at b c (48 + (r : Int)) (by rw [← hc, UInt8.toNat_ofNat_of_lt' (by show 48 + r < 256; omega)]; omega)
    have HC := Lib.hid (show Lib.decDigits n = Lib.decDigits q ++ [c] by rw [Lib.decDigits, dif_neg h10, hq, hr, hc])
    have HI := Lib.hid (ih q (by omega) (by omega))
    obtain ⟨S, hS⟩ : ∃ S : ByteArray, (⟨(Lib.decDigits q).toArray⟩ : ByteArray) = S := ⟨_, rfl⟩
    have HS := Lib.hid hS
    have hsz : S.size ≤ 4194304 := by
      rw [← hS]
      exact dec_size _ (by omega)
    clear ih hc hS hq hr hm
    go_enter Tryz.func71, Tryz.ntmps71
    go_wp2_with fail
    go_region_with (first | (go_at_call 71; refine (HI.out _).mono ?_; rw [HS.out]; rintro e w' ⟨rfl, hb⟩; obtain ⟨os, d, rfl⟩ := more_of_below hb; clear hb))
    all_goals
      go_wp2_with fail
      go_returns
      refine ⟨?_, by repeat' (first | (with_reducible exact Below.refl _ _) | (with_reducible assumption) | (with_reducible refine Below.alloc ?_ ?_ _) | (with_reducible refine below_more ?_ ?_ _ _) | (with_reducible refine below_rd ?_ ?_ _ _) | (with_reducible refine Below.drew ?_) | (with_reducible refine Below.setCell ?_ ?_ _) | go_size)⟩
      rw [HC.out, ← HS.out]
      show Ending.returned (.string (_ ++ _)) = _
      exact congrArg (fun s => Ending.returned (.string s)) (mk_append _ [c])
/-- A number as a text. -/
theorem l6Dec_any (n : Int) (h0 : -1000000000 ≤ n) (h1 : n ≤ 1000000000) (w : World) : Calls Tryz.prog 71 #[.int .i64 n] w fun e w' => e = .returned (.string ⟨(Lib.itoa n).toArray⟩) ∧ Below w.heap.size w w' := by
  by_cases hn : n < 0
  · have h2 : decide (n < -9223372036854775807) = false := by rw [decide_eq_false_iff_not]; omega
    have h3 : IntKind.i64.wrap (-n) = ((n.natAbs : Nat) : Int) := by rw [IntWalk.i64_in _ (by omega)]; omega
    have HI := Lib.hid (l6Dec_nat n.natAbs (by omega))
    have HC := Lib.hid (show Lib.itoa n = 45 :: Lib.decDigits n.natAbs by rw [Lib.itoa, if_pos hn])
    obtain ⟨S, hS⟩ : ∃ S : ByteArray, (⟨(Lib.decDigits n.natAbs).toArray⟩ : ByteArray) = S := ⟨_, rfl⟩
    have HS := Lib.hid hS
    have hsz : S.size ≤ 4194304 := by rw [← hS]; exact dec_size _ (by omega)
    generalize n.natAbs = m at h3 HI HC HS
    clear hS h0 h1
    go_enter Tryz.func71, Tryz.ntmps71
    go_wp2_with (go_at_call 71; go_must (refine (HI.out _).mono ?_; rw [HS.out]; rintro e w' ⟨rfl, hb⟩; obtain ⟨os, d, rfl⟩ := more_of_below hb; clear hb))
    go_returns
    refine ⟨?_, by repeat' (first | (with_reducible exact Below.refl _ _) | (with_reducible assumption) | (with_reducible refine Below.alloc ?_ ?_ _) | (with_reducible refine below_more ?_ ?_ _ _) | (with_reducible refine below_rd ?_ ?_ _ _) | (with_reducible refine Below.drew ?_) | (with_reducible refine Below.setCell ?_ ?_ _) | go_size)⟩
    rw [HC.out, ← HS.out]
    rfl
  · obtain ⟨m, rfl⟩ : ∃ m : Nat, n = (m : Int) := ⟨n.toNat, by omega⟩
    have h := l6Dec_nat m (by omega) w
    rw [show Lib.itoa (m : Int) = Lib.decDigits m by rw [Lib.itoa, if_neg hn]; rfl]
    exact h
end Go.Proofs.YthojdoiffkdikaaGreatDoor
