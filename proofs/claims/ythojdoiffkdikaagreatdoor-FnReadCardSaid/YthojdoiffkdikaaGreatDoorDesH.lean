/- Numbers as texts: the reference's way. Designs as texts: the reference's way. -/
import Derived.Test.YthojdoiffkdikaaGreatDoorDesF
import Derived.Laws.IdiomStrings
import Derived.BigQuiet
import Derived.Deep.RegionWith
import Derived.Lib.Join
section -- a part
namespace Go.Proofs.YthojdoiffkdikaaGreatDoor
open Go.RowKit

theorem conv_at (b : Nat) (c : UInt8) (n : Int) (hn : (c.toNat : Int) = n) (w : World) (h : w.cell? ⟨b, 0, none⟩ = some (.int .u8 n)) :
    (convert 22 9 (.slice (some ⟨b, 0, none⟩) 1 1)).run Tryz.prog w = .ok (.string ⟨#[c]⟩) w := by
  refine run_convert_bytes_back (P := Tryz.prog) _ 22 9 5 ⟨b, 0, none⟩ 1 [c] Tryz.underlying22 Tryz.underlying5 Tryz.underlying9 ?_
  intro j hj
  obtain rfl : j = 0 := by simp at hj; omega
  show w.cell? ⟨b, 0, none⟩ = _
  rw [h, ← hn]; rfl
theorem mk_append (a b : List UInt8) : (⟨a.toArray⟩ : ByteArray) ++ ⟨b.toArray⟩ = ⟨(a ++ b).toArray⟩ := by
  apply ByteArray.ext
  simp
theorem nDigits_le : ∀ (k u : Nat), u < 10 ^ (k + 1) → Lib.nDigits u ≤ k + 1
  | 0, u, h => by rw [Lib.nDigits_small (by simpa using h)]; omega
  | k + 1, u, h => by
    by_cases h10 : u < 10
    · rw [Lib.nDigits_small h10]; omega
    · rw [Lib.nDigits_big h10]
      have := nDigits_le k (u / 10) (by rw [Nat.pow_succ] at h; omega)
      omega
theorem dec_len (n : Nat) (hn : n ≤ 1000000000) : (Lib.decDigits n).length ≤ 10 := by
  rw [Lib.decDigits_length]; exact nDigits_le 9 n (by omega)
theorem dec_size (n : Nat) (hn : n ≤ 1000000000) : (⟨(Lib.decDigits n).toArray⟩ : ByteArray).size ≤ 4194304 := by
  have := dec_len n hn
  show (Lib.decDigits n).toArray.size ≤ _
  rw [List.size_toArray]; omega
set_option maxRecDepth 100000 in
set_option maxHeartbeats 4000000 in
theorem l6Dec_nat : ∀ (n : Nat), n ≤ 1000000000 → ∀ w : World, Calls Tryz.prog 71 #[.int .i64 n] w fun e w' => e = .returned (.string ⟨(Lib.decDigits n).toArray⟩) ∧ Below w.heap.size w w' := by
  intro n
  induction n using Nat.strongRecOn with
  | ind n ih =>
  intro hn w
  have h1 : decide ((n : Int) < -9223372036854775807) = false := by rw [decide_eq_false_iff_not]; omega
  have h2 : decide ((n : Int) < 0) = false := by rw [decide_eq_false_iff_not]; omega
  by_cases h10 : n < 10
  · have h3 : (n : Int) < 10 := by omega
    have hw1 : IntKind.i64.wrap (48 + (n : Int)) = 48 + (n : Int) := IntWalk.i64_in _ (by omega)
    have hwu : IntKind.u8.wrap (48 + (n : Int)) = 48 + (n : Int) := IntWalk.u8_in _ (by omega)
    obtain ⟨c, hc⟩ : ∃ c, UInt8.ofNat (48 + n) = c := ⟨_, rfl⟩
    have hcv := conv_at w.heap.size c (48 + (n : Int)) (by rw [← hc, UInt8.toNat_ofNat_of_lt' (by show 48 + n < 256; omega)]; omega)
    have HC := Lib.hid (show Lib.decDigits n = [c] by rw [Lib.decDigits, dif_pos h10, hc])
    clear hc
    go_enter Tryz.func71, Tryz.ntmps71
    go_wp2_with fail
    go_returns
    exact ⟨by rw [HC.out]; rfl, by repeat' (first | (with_reducible exact Below.refl _ _) | (with_reducible assumption) | (with_reducible refine Below.alloc ?_ ?_ _) | (with_reducible refine below_more ?_ ?_ _ _) | (with_reducible refine below_rd ?_ ?_ _ _) | (with_reducible refine Below.drew ?_) | (with_reducible refine Below.setCell ?_ ?_ _) | go_size)⟩
  · have h3 : decide ((n : Int) < 10) = false := by rw [decide_eq_false_iff_not]; omega
    have hm : n % 10 < 10 := Nat.mod_lt _ (by omega)
    obtain ⟨q, hq⟩ : ∃ q, n / 10 = q := ⟨_, rfl⟩
    obtain ⟨r, hr⟩ : ∃ r, n % 10 = r := ⟨_, rfl⟩
    have hq1 : (n : Int).tdiv 10 = (q : Int) := by rw [← hq]; rfl
    have hr1 : (n : Int).tmod 10 = (r : Int) := by rw [← hr]; rfl
    have hq2 : IntKind.i64.wrap (q : Int) = (q : Int) := IntWalk.i64_in _ (by omega)
    have hr2 : IntKind.i64.wrap (r : Int) = (r : Int) := IntWalk.i64_in _ (by omega)
    have hw1 : IntKind.i64.wrap (48 + (r : Int)) = 48 + (r : Int) := IntWalk.i64_in _ (by omega)
    have hwu : IntKind.u8.wrap (48 + (r : Int)) = 48 + (r : Int) := IntWalk.u8_in _ (by omega)
    obtain ⟨c, hc⟩ : ∃ c, UInt8.ofNat (48 + r) = c := ⟨_, rfl⟩
    have hcv := fun b => conv_at b c (48 + (r : Int)) (by rw [← hc, UInt8.toNat_ofNat_of_lt' (by show 48 + r < 256; omega)]; omega)
    have HC := Lib.hid (show Lib.decDigits n = Lib.decDigits q ++ [c] by rw [Lib.decDigits, dif_neg h10, hq, hr, hc])
    have HI := Lib.hid (ih q (by omega) (by omega))
    obtain ⟨S, hS⟩ : ∃ S : ByteArray, (⟨(Lib.decDigits q).toArray⟩ : ByteArray) = S := ⟨_, rfl⟩
    have HS := Lib.hid hS
    have hsz : S.size ≤ 4194304 := by
      rw [← hS]
      exact dec_size _ (by omega)
    clear ih hc hS hq hr hm
    go_enter Tryz.func71, Tryz.ntmps71
    go_wp2_with fail
    go_region_with (first | (go_at_call 71; refine (HI.out _).mono ?_; rw [HS.out]; rintro e w' ⟨rfl, hb⟩; obtain ⟨os, d, rfl⟩ := more_of_below hb; clear hb))
    all_goals
      go_wp2_with fail
      go_returns
      refine ⟨?_, by repeat' (first | (with_reducible exact Below.refl _ _) | (with_reducible assumption) | (with_reducible refine Below.alloc ?_ ?_ _) | (with_reducible refine below_more ?_ ?_ _ _) | (with_reducible refine below_rd ?_ ?_ _ _) | (with_reducible refine Below.drew ?_) | (with_reducible refine Below.setCell ?_ ?_ _) | go_size)⟩
      rw [HC.out, ← HS.out]
      show Ending.returned (.string (_ ++ _)) = _
      exact congrArg (fun s => Ending.returned (.string s)) (mk_append _ [c])
/-- A number as a text. -/
theorem l6Dec_any (n : Int) (h0 : -1000000000 ≤ n) (h1 : n ≤ 1000000000) (w : World) : Calls Tryz.prog 71 #[.int .i64 n] w fun e w' => e = .returned (.string ⟨(Lib.itoa n).toArray⟩) ∧ Below w.heap.size w w' := by
  by_cases hn : n < 0
  · have h2 : decide (n < -9223372036854775807) = false := by rw [decide_eq_false_iff_not]; omega
    have h3 : IntKind.i64.wrap (-n) = ((n.natAbs : Nat) : Int) := by rw [IntWalk.i64_in _ (by omega)]; omega
    have HI := Lib.hid (l6Dec_nat n.natAbs (by omega))
    have HC := Lib.hid (show Lib.itoa n = 45 :: Lib.decDigits n.natAbs by rw [Lib.itoa, if_pos hn])
    obtain ⟨S, hS⟩ : ∃ S : ByteArray, (⟨(Lib.decDigits n.natAbs).toArray⟩ : ByteArray) = S := ⟨_, rfl⟩
    have HS := Lib.hid hS
    have hsz : S.size ≤ 4194304 := by rw [← hS]; exact dec_size _ (by omega)
    generalize n.natAbs = m at h3 HI HC HS
    clear hS h0 h1
    go_enter Tryz.func71, Tryz.ntmps71
    go_wp2_with (go_at_call 71; go_must (refine (HI.out _).mono ?_; rw [HS.out]; rintro e w' ⟨rfl, hb⟩; obtain ⟨os, d, rfl⟩ := more_of_below hb; clear hb))
    go_returns
    refine ⟨?_, by repeat' (first | (with_reducible exact Below.refl _ _) | (with_reducible assumption) | (with_reducible refine Below.alloc ?_ ?_ _) | (with_reducible refine below_more ?_ ?_ _ _) | (with_reducible refine below_rd ?_ ?_ _ _) | (with_reducible refine Below.drew ?_) | (with_reducible refine Below.setCell ?_ ?_ _) | go_size)⟩
    rw [HC.out, ← HS.out]
    rfl
  · obtain ⟨m, rfl⟩ : ∃ m : Nat, n = (m : Int) := ⟨n.toNat, by omega⟩
    have h := l6Dec_nat m (by omega) w
    rw [show Lib.itoa (m : Int) = Lib.decDigits m by rw [Lib.itoa, if_neg hn]; rfl]
    exact h
end Go.Proofs.YthojdoiffkdikaaGreatDoor
end
section -- a part
namespace Go.Proofs.YthojdoiffkdikaaGreatDoor
open Go.RowKit

abbrev Tx := List UInt8
theorem bapp (a b : ByteArray) : (a ++ b).data.toList = a.data.toList ++ b.data.toList := by simp
theorem bsize (s : ByteArray) : s.size = s.data.toList.length := by rw [Array.length_toList]; rfl
theorem mk_data (s : ByteArray) : (⟨s.data.toList.toArray⟩ : ByteArray) = s := by
  apply ByteArray.ext; simp
theorem joinTail_snoc (sep : Tx) (r : List Tx) (x : Tx) : Lib.joinTail sep (r ++ [x]) = Lib.joinTail sep r ++ (sep ++ x) := by simp [Lib.joinTail]
theorem join_snoc (ys : List Tx) (x sep : Tx) (h : ys ≠ []) : Lib.join (ys ++ [x]) sep = Lib.join ys sep ++ (sep ++ x) := by
  cases ys with
  | nil => exact absurd rfl h
  | cons y r => rw [List.cons_append, Lib.join_cons, Lib.join_cons, joinTail_snoc, List.append_assoc]
theorem join_take {ys : List Tx} {k : Nat} {x : Tx} (sep : Tx) (hx : ys[k]? = some x) : Lib.join (ys.take (k + 1)) sep = if 0 < k then Lib.join (ys.take k) sep ++ (sep ++ x) else x := by
  have hk : k < ys.length := (List.getElem?_eq_some_iff.1 hx).1
  rw [List.take_add_one, hx]
  simp only [Option.toList_some]
  by_cases h0 : 0 < k
  · rw [if_pos h0, join_snoc _ _ _ (by intro e; have h := congrArg List.length e; rw [List.length_take, List.length_nil] at h; omega)]
  · obtain rfl : k = 0 := by omega
    rw [if_neg h0, List.take_zero, List.nil_append, Lib.join_one]
theorem itoa_len (n : Int) (h0 : -1000000000 ≤ n) (h1 : n ≤ 1000000000) : (Lib.itoa n).length ≤ 11 := by
  rw [Lib.itoa]
  split
  · have := dec_len n.natAbs (by omega); simp only [List.length_cons]; omega
  · have := dec_len n.toNat (by omega); omega
/-- The numbers of a wheel's radius as texts; a wheel as a text; a design as a text. -/
def numsT (c : C8) : List Tx := c.l.map Lib.itoa
def wt (x : W9) : Tx := Lib.itoa x.s ++ 58 :: Lib.join (numsT x.r) [44]
def dt (l : List W9) : Tx := if l = [] then [45] else Lib.join (l.map wt) [32]
theorem numsT_len (c : C8) : (numsT c).length = 8 := rfl
theorem numsT_get (c : C8) {k : Nat} (hk : k < 8) : (numsT c)[k]? = some (Lib.itoa (c.g k)) := by
  obtain rfl | rfl | rfl | rfl | rfl | rfl | rfl | rfl : k = 0 ∨ k = 1 ∨ k = 2 ∨ k = 3 ∨ k = 4 ∨ k = 5 ∨ k = 6 ∨ k = 7 := by omega
  all_goals rfl
theorem rad_get (x : W9) {k : Nat} (hk : k < 8) : (rowW x).toList[1 + k]? = some (.int .i64 (x.r.g k)) := by
  obtain rfl | rfl | rfl | rfl | rfl | rfl | rfl | rfl : k = 0 ∨ k = 1 ∨ k = 2 ∨ k = 3 ∨ k = 4 ∨ k = 5 ∨ k = 6 ∨ k = 7 := by omega
  all_goals rfl
theorem okC_g {c : C8} (h : okC c = true) {k : Nat} (hk : k < 8) : -1000000 ≤ c.g k ∧ c.g k ≤ 1000000 := inB_iff.1 (okC_iff.1 h k hk)
set_option maxRecDepth 100000 in
set_option maxHeartbeats 4000000 in
theorem l13Wheel_any (x : W9) (w : World) (hs : -1000 ≤ x.s ∧ x.s ≤ 1000) (hok : okC x.r = true) :
    Calls Tryz.prog 68 #[wv x] w fun e w' => e = .returned (.string ⟨(wt x).toArray⟩) ∧ Below w.heap.size w w' := by
  have HOK := Lib.hid hok
  have HSL := Lib.hid (itoa_len x.s (by omega) (by omega))
  have HDS := Lib.hid (l6Dec_any x.s (by omega) (by omega))
  obtain ⟨S0, hS0⟩ : ∃ S : ByteArray, (⟨(Lib.itoa x.s).toArray⟩ : ByteArray) = S := ⟨_, rfl⟩
  have HS0 := Lib.hid hS0
  have hsz0 : S0.size ≤ 11 := by rw [← hS0, bsize]; exact HSL.out
  clear hS0 hok hs
  go_enter Tryz.func68, Tryz.ntmps68
  go_wp2_with (go_at_call 71; go_must (refine (HDS.out _).mono ?_; rw [HS0.out]; rintro e w' ⟨rfl, hb⟩; obtain ⟨os, d, rfl⟩ := more_of_below hb; clear hb))
  go_loopw [3, 4] (fun s3 s4 wr => ∃ (k : Nat) (S : ByteArray), s3 = .string S ∧ s4 = .int .i64 k ∧ k ≤ 8 ∧ S.size ≤ 12 + 12 * k ∧ Hid (S.data.toList = Lib.itoa x.s ++ 58 :: Lib.join ((numsT x.r).take k) [44]) ∧ Hid (Below (w.heap.size + 1) (w.alloc (.cells (rowW x) 61)) wr)) (fun _ s4 _ => 8 - (intOf s4).toNat)
  case atStart =>
    refine ⟨0, _, rfl, rfl, by omega, ?_, ?_, below_more (Below.refl _ _) (by rw [World.size_alloc]; omega) os d⟩
    · rw [bsize, bapp, List.length_append, ← bsize]; simp; omega
    · show _ = _
      rw [bapp, ← HS0.out]; rfl
  case round =>
    obtain ⟨k, S, rfl, rfl, hk, hS1, hS, hbel⟩ := hrel
    have hszw := hbel.out.size
    rw [World.size_alloc] at hszw
    by_cases hlt : k < 8
    · have hbx : wr.heap[w.heap.size]? = some (.cells (rowW x) 61 (0, 0)) := (hbel.out.block _ (by omega)).trans (heap_alloc_new _ _)
      have hcell : wr.cell? ⟨w.heap.size, 1 + k, none⟩ = some (.int .i64 (x.r.g k)) := (Lib.cell_of_heap hbx (1 + k)).trans (by rw [← Array.getElem?_toList]; exact rad_get x hlt)
      have hb := okC_g HOK.out hlt
      have HJ := Lib.hid (join_take [44] (numsT_get x.r hlt))
      generalize x.r.g k = n at hcell hb HJ
      have HDN := Lib.hid (l6Dec_any n (by omega) (by omega))
      have HNL := Lib.hid (itoa_len n (by omega) (by omega))
      obtain ⟨X, hX⟩ : ∃ X : ByteArray, (⟨(Lib.itoa n).toArray⟩ : ByteArray) = X := ⟨_, rfl⟩
      have HX := Lib.hid hX
      have hsX : X.size ≤ 11 := by rw [← hX, bsize]; exact HNL.out
      have HXD := Lib.hid (show X.data.toList = Lib.itoa n by rw [← hX])
      clear hX hb hbx
      by_cases h0 : 0 < k
      · have hki : (0 : Int) < (k : Int) := by omega
        have hk8 : (k : Int) < 8 := by omega
        go_wp2_with (go_at_call 71; go_must (refine (HDN.out _).mono ?_; rw [HX.out]; rintro e w' ⟨rfl, hb⟩; obtain ⟨os, d, rfl⟩ := more_of_below hb; clear hb))
        go_roundw
        case rel =>
          refine ⟨k + 1, _, rfl, by go_num, by omega, ?_, ?_, below_more hbel.out (by omega) _ _⟩
          · have h44 : (⟨#[44]⟩ : ByteArray).size = 1 := rfl
            rw [bsize, bapp, bapp, List.length_append, List.length_append, ← bsize, ← bsize, ← bsize]; omega
          · show _ = _
            rw [bapp, bapp, hS.out, HXD.out, HJ.out, if_pos h0]
            simp
        case measure => simp [intOf]; omega
      · obtain rfl : k = 0 := by omega
        go_wp2_with (go_at_call 71; go_must (refine (HDN.out _).mono ?_; rw [HX.out]; rintro e w' ⟨rfl, hb⟩; obtain ⟨os, d, rfl⟩ := more_of_below hb; clear hb))
        go_roundw
        case rel =>
          refine ⟨1, _, rfl, by go_num, by omega, ?_, ?_, below_more hbel.out (by omega) _ _⟩
          · rw [bsize, bapp, List.length_append, ← bsize, ← bsize]; omega
          · show _ = _
            rw [bapp, hS.out, HXD.out, HJ.out, if_neg h0, List.take_zero, Lib.join_nil]
            simp
        case measure => simp [intOf]
    · obtain rfl : k = 8 := by omega
      go_wp2_with fail
      go_returns
      refine ⟨?_, ((Below.refl _ w).alloc (Nat.le_refl _) _).trans (hbel.out.mono (by omega))⟩
      rw [← mk_data S, hS.out]; rfl
theorem joinTail_le (c : UInt8) (B : Nat) : ∀ (r : List Tx), (∀ y ∈ r, y.length ≤ B) → (Lib.joinTail [c] r).length ≤ (B + 1) * r.length
  | [], _ => by simp [Lib.joinTail]
  | y :: r, h => by
    have h1 := h y (by simp)
    have h2 := joinTail_le c B r (fun z hz => h z (by simp [hz]))
    have e : Lib.joinTail [c] (y :: r) = [c] ++ y ++ Lib.joinTail [c] r := by simp [Lib.joinTail]
    rw [e, List.length_append, List.length_append, List.length_cons, List.length_cons, List.length_nil, Nat.mul_succ]; omega
theorem join_le (c : UInt8) (B : Nat) (ys : List Tx) (h : ∀ y ∈ ys, y.length ≤ B) : (Lib.join ys [c]).length ≤ (B + 1) * ys.length := by
  cases ys with
  | nil => simp [Lib.join_nil]
  | cons y r =>
    have h1 := h y (by simp)
    have h2 := joinTail_le c B r (fun z hz => h z (by simp [hz]))
    rw [Lib.join_cons, List.length_append, List.length_cons, Nat.mul_succ]; omega
theorem numsT_le {c : C8} (h : okC c = true) : ∀ y ∈ numsT c, y.length ≤ 11 := by
  intro y hy
  obtain ⟨k, hk, e⟩ := List.mem_iff_getElem.1 hy
  rw [numsT_len] at hk
  have h2 := numsT_get c hk
  rw [List.getElem?_eq_getElem (by rw [numsT_len]; exact hk), e] at h2
  obtain rfl := Option.some.inj h2
  have := okC_g h hk
  exact itoa_len _ (by omega) (by omega)
theorem wt_len {x : W9} (hs : -1000 ≤ x.s ∧ x.s ≤ 1000) (h : okC x.r = true) : (wt x).length ≤ 108 := by
  have h1 := itoa_len x.s (by omega) (by omega)
  have h2 := join_le 44 11 (numsT x.r) (numsT_le h)
  rw [numsT_len] at h2
  rw [wt, List.length_append, List.length_cons]; omega
set_option maxRecDepth 100000 in
set_option maxHeartbeats 4000000 in
theorem l13Text_any (a : Option Addr) (cap : Nat) (xs : List W9) (w : World) (h : HasW w a xs) (hn : xs.length ≤ 12) (hok : ∀ x ∈ xs, (-1000 ≤ x.s ∧ x.s ≤ 1000) ∧ okC x.r = true) :
    Calls Tryz.prog 41 #[.slice a xs.length cap] w fun e w' => e = .returned (.string ⟨(dt xs).toArray⟩) ∧ Below w.heap.size w w' := by
  have H := Lib.hid h
  have HOK := Lib.hid hok
  clear h hok
  by_cases hne : xs = []
  · subst hne
    go_enter Tryz.func41, Tryz.ntmps41
    go_wp2_with fail
    go_returns
    exact ⟨rfl, Below.refl _ _⟩
  · have HDT := Lib.hid (show dt xs = Lib.join (xs.map wt) [32] by rw [dt, if_neg hne])
    have hpos : 0 < xs.length := List.length_pos_iff.2 hne
    have hn0 : decide ((xs.length : Int) = 0) = false := by rw [decide_eq_false_iff_not]; omega
    have hn1 : ((xs.length : Int) == 0) = false := by rw [beq_eq_false_iff_ne]; omega
    clear hne
    go_enter Tryz.func41, Tryz.ntmps41
    go_wp2_with fail
    go_loopw [3, 4] (fun s3 s4 wr => ∃ (k : Nat) (S : ByteArray), s3 = .string S ∧ s4 = .int .i64 k ∧ k ≤ xs.length ∧ S.size ≤ 109 * k ∧ Hid (S.data.toList = Lib.join ((xs.map wt).take k) [32]) ∧ Hid (Below w.heap.size w wr)) (fun _ s4 _ => xs.length - (intOf s4).toNat)
    case atStart => exact ⟨0, ⟨#[]⟩, rfl, rfl, by omega, Nat.le_refl _, rfl, Below.refl _ _⟩
    case round =>
      obtain ⟨k, S, rfl, rfl, hk, hS1, hS, hbel⟩ := hrel
      have hszw := hbel.out.size
      have hk0 : (0 : Int) ≤ (k : Int) := by omega
      by_cases hlt : k < xs.length
      · have hki : (k : Int) < (xs.length : Int) := by omega
        rcases H.out with rfl | ⟨b, rfl, hb, hp⟩
        · simp at hpos
        · have hwk := (hp k hlt).below hbel.out hb
          have hox := HOK.out _ (getD_memW hlt)
          have HJ := Lib.hid (join_take [32] (show (xs.map wt)[k]? = some (wt (xs.getD k W9.zero)) by rw [List.getElem?_map, List.getElem?_eq_getElem hlt, List.getD_eq_getElem?_getD, List.getElem?_eq_getElem hlt]; rfl))
          generalize xs.getD k W9.zero = x at hwk hox HJ
          have HDN := Lib.hid (fun W => l13Wheel_any x W hox.1 hox.2)
          have HNL := Lib.hid (wt_len hox.1 hox.2)
          obtain ⟨c0, a0, a1, a2, a3, a4, a5, a6, a7⟩ := hwk.cells
          obtain ⟨X, hX⟩ : ∃ X : ByteArray, (⟨(wt x).toArray⟩ : ByteArray) = X := ⟨_, rfl⟩
          have HX := Lib.hid hX
          have hsX : X.size ≤ 108 := by rw [← hX, bsize]; exact HNL.out
          have HXD := Lib.hid (show X.data.toList = wt x by rw [← hX])
          clear hX hox hwk hp
          by_cases h0 : 0 < k
          · have hkp : (0 : Int) < (k : Int) := by omega
            go_wp2_with (go_at_call 68; go_must (refine (HDN.out _).mono ?_; rw [HX.out]; rintro e w' ⟨rfl, hb⟩; obtain ⟨os, d, rfl⟩ := more_of_below hb; clear hb))
            go_roundw
            case rel =>
              refine ⟨k + 1, _, rfl, by go_num, by omega, ?_, ?_, below_more hbel.out hszw _ _⟩
              · have h44 : (⟨#[32]⟩ : ByteArray).size = 1 := rfl
                rw [bsize, bapp, bapp, List.length_append, List.length_append, ← bsize, ← bsize, ← bsize]; omega
              · show _ = _
                rw [bapp, bapp, hS.out, HXD.out, HJ.out, if_pos h0]
                simp
            case measure => simp [intOf]; omega
          · obtain rfl : k = 0 := by omega
            go_wp2_with (go_at_call 68; go_must (refine (HDN.out _).mono ?_; rw [HX.out]; rintro e w' ⟨rfl, hb⟩; obtain ⟨os, d, rfl⟩ := more_of_below hb; clear hb))
            go_roundw
            case rel =>
              refine ⟨1, _, rfl, by go_num, by omega, ?_, ?_, below_more hbel.out hszw _ _⟩
              · rw [bsize, bapp, List.length_append, ← bsize, ← bsize]; omega
              · show _ = _
                rw [bapp, hS.out, HXD.out, HJ.out, if_neg h0, List.take_zero, Lib.join_nil]
                simp
            case measure => simp [intOf]; omega
      · have hki : decide ((k : Int) < (xs.length : Int)) = false := by rw [decide_eq_false_iff_not]; omega
        go_wp2_with fail
        go_returns
        refine ⟨?_, hbel.out⟩
        have h := hS.out
        rw [List.take_of_length_le (by rw [List.length_map]; omega), ← HDT.out] at h
        rw [← h, mk_data]; rfl
end Go.Proofs.YthojdoiffkdikaaGreatDoor
end
