/- Plotter programs: whether a text is one; words joined; a digit (the reference). -/
import Derived.Test.YthojdoiffkdikaaGreatDoorPlotU
import Derived.Laws.IdiomStrings
namespace Go.Proofs.YthojdoiffkdikaaGreatDoor
open Go.RowKit Go.PlotT

theorem bytes_append (a b : ByteArray) : (a ++ b).data.toList = a.data.toList ++ b.data.toList := by simp

/-- A program is read. -/
def ProgPost (w : World) (l : Wd) (e : Ending) (w' : World) : Prop := ∃ (g cap : Nat) (o : List Wd), e = .returned (.tuple #[.slice (some ⟨g, 0, none⟩) o.length cap, .bool (prog l).isSome]) ∧ Lies w' g o ∧ (∀ x ∈ o, isSt x = true) ∧ o.length ≤ 1000 ∧ Below w.heap.size w w'
set_option maxRecDepth 100000 in
set_option maxHeartbeats 1000000 in
theorem l12Program_any (s : ByteArray) (hs : s.size ≤ 1048576) (w : World) :
    Calls Tryz.prog 51 #[.string s] w (ProgPost w s.data.toList) := by
  have hp := prog_eq s.data.toList
  rw [← Lib.size_eq] at hp
  by_cases h4 : s.size ≤ 400
  · rw [if_neg (by omega)] at hp
    have HP := Lib.hid hp
    clear hp
    have hlen := cutW_length s.data.toList
    rw [← Lib.size_eq] at hlen
    cases hf : fl (cutW s.data.toList) false [] with
    | none =>
      have HF := Lib.hid hf
      clear hf
      go_enter Tryz.func51, Tryz.ntmps51
      go_wp2_with (first
        | (go_at_call 28; go_must (refine (l12Words_any s hs _).mono ?_; intro e w1 hpost; obtain ⟨g, cap, rfl, ho, hb⟩ := hpost; have HO := Lib.hid ho; have HB := Lib.hid hb; have hsz := hb.size; clear hb ho))
        | (go_at_call 76; go_must (refine (l12Flat_any (cutW s.data.toList) g cap (by omega) ((cutW s.data.toList).length + 1) 0 _ false _ (by omega) (by omega) rfl HO.out.lies).mono ?_; intro e w2 hpost; rw [List.drop_zero, HF.out] at hpost; obtain ⟨g2, c2, o2, rfl, ho2, hs2, hl2, hb2⟩ := hpost; have HO2 := Lib.hid ho2.lies; have HS2 := Lib.hid hs2; have HB2 := Lib.hid (HB.out.trans (hb2.mono hsz)); clear hb2)))
      go_returns
      refine ⟨g2, c2, o2, ?_, HO2.out, HS2.out, hl2, HB2.out⟩
      rw [HP.out, HF.out]; rfl
    | some p =>
      obtain ⟨o, r⟩ := p
      have HF := Lib.hid hf
      clear hf
      go_enter Tryz.func51, Tryz.ntmps51
      go_wp2_with (first
        | (go_at_call 28; go_must (refine (l12Words_any s hs _).mono ?_; intro e w1 hpost; obtain ⟨g, cap, rfl, ho, hb⟩ := hpost; have HO := Lib.hid ho; have HB := Lib.hid hb; have hsz := hb.size; clear hb ho))
        | (go_at_call 76; go_must (refine (l12Flat_any (cutW s.data.toList) g cap (by omega) ((cutW s.data.toList).length + 1) 0 _ false _ (by omega) (by omega) rfl HO.out.lies).mono ?_; intro e w2 hpost; rw [List.drop_zero, HF.out] at hpost; obtain ⟨g2, c2, rfl, hob, hb2⟩ := hpost; have HO2 := Lib.hid hob.lies; have HB2 := Lib.hid (HB.out.trans (hb2.mono hsz)); clear hb2 hob)))
      go_returns
      refine ⟨g2, c2, o, ?_, HO2.out, (fl_steps HF.out).1, (by have := (fl_steps HF.out).2; omega), HB2.out⟩
      rw [HP.out, HF.out]
      simp
  · rw [if_pos (by omega)] at hp
    have HP := Lib.hid hp
    clear hp
    go_enter Tryz.func51, Tryz.ntmps51
    go_wp2_with fail
    go_returns
    refine ⟨w.heap.size, 0, [], ?_, ⟨by rw [World.size_alloc]; omega, fun j x hx => by simp at hx⟩, by simp, by simp, by repeat' (first | (with_reducible exact Below.refl _ _) | (with_reducible assumption) | (with_reducible refine Below.alloc ?_ ?_ _) | (with_reducible refine below_more ?_ ?_ _ _) | (with_reducible refine below_rd ?_ ?_ _ _) | (with_reducible refine Below.drew ?_) | (with_reducible refine Below.setCell ?_ ?_ _) | go_size)⟩
    rw [HP.out]; rfl
set_option maxHeartbeats 1000000 in
theorem specPlotValid_any (s : ByteArray) (hs : s.size ≤ 1048576) (w : World) :
    Calls Tryz.prog 29 #[.string s] w fun e w' => e = .returned (.bool (prog s.data.toList).isSome) ∧ Below w.heap.size w w' := by
  go_enter Tryz.func29, Tryz.ntmps29
  go_wp2_with (go_at_call 51; refine (l12Program_any s hs _).mono ?_; rintro e w' ⟨g, n, c, rfl, -, -, -, hb⟩; have HB := Lib.hid hb; clear hb)
  go_returns
  exact ⟨rfl, HB.out⟩

/-- Words joined. -/
theorem jn_take {ws : List Wd} {i : Nat} {x : Wd} (hx : ws[i]? = some x) : jn (ws.take (i + 1)) = (if 0 < i then jn (ws.take i) ++ [32] else []) ++ x := by
  have hi : i < ws.length := (List.getElem?_eq_some_iff.1 hx).1
  rw [List.take_add_one, hx]
  simp only [Option.toList_some]
  by_cases h0 : 0 < i
  · rw [if_pos h0, jn_snoc x (by intro e; have h := congrArg List.length e; rw [List.length_take, List.length_nil] at h; omega), List.append_assoc]; rfl
  · obtain rfl : i = 0 := by omega
    simp
theorem jn_take_le (ws : List Wd) (i : Nat) : (jn (ws.take i)).length ≤ (jn ws).length := by
  by_cases h1 : ws.take i = []
  · rw [h1]; simp
  · by_cases h2 : ws.drop i = []
    · conv => rhs; rw [← List.take_append_drop i ws, h2, List.append_nil]
      exact Nat.le_refl _
    · conv => rhs; rw [← List.take_append_drop i ws, jn_append h1 h2]
      simp
set_option maxRecDepth 100000 in
set_option maxHeartbeats 1000000 in
theorem l12Join_any (ws : List Wd) (g cap : Nat) (hws : ws.length ≤ 4194304) (w : World) (hl : Lies w g ws) (hlen : (jn ws).length ≤ 4194304) :
    Calls Tryz.prog 30 #[.slice (some ⟨g, 0, none⟩) ws.length cap] w fun e w' => e = .returned (.string ⟨(jn ws).toArray⟩) ∧ w' = w := by
  have HL := Lib.hid hl
  clear hl
  go_enter Tryz.func30, Tryz.ntmps30
  go_wp2_with fail
  go_loopw [3, 4] (fun s3 s4 wr => ∃ (i : Nat) (S : ByteArray), s3 = .string S ∧ s4 = .int .i64 i ∧ i ≤ ws.length ∧ Hid (S.data.toList = jn (ws.take i)) ∧ wr = w) (fun _ s4 _ => ws.length - (intOf s4).toNat)
  case atStart => exact ⟨0, ⟨#[]⟩, rfl, rfl, by omega, rfl, rfl⟩
  case round =>
    obtain ⟨i, S, rfl, rfl, hi, hS, rfl⟩ := hrel
    by_cases hlt : i < ws.length
    · obtain ⟨x, hx⟩ : ∃ x, ws[i]? = some x := ⟨_, List.getElem?_eq_getElem hlt⟩
      have hcell : wr.cell? ⟨g, i, none⟩ = some (.string ⟨x.toArray⟩) := HL.out.2 i x hx
      have HJ := Lib.hid (jn_take hx)
      clear hx
      have hS1 : S.size ≤ 4194304 := by rw [Lib.size_eq, hS.out]; have := jn_take_le ws i; omega
      have hX1 : (⟨x.toArray⟩ : ByteArray).size ≤ 4194304 := by
        have h := jn_take_le ws (i + 1)
        rw [HJ.out, List.length_append] at h
        rw [Lib.size_eq]
        show x.length ≤ _
        omega
      have hX : (⟨x.toArray⟩ : ByteArray).data.toList = x := rfl
      generalize (⟨x.toArray⟩ : ByteArray) = X at hX hX1 hcell
      have HX := Lib.hid hX
      clear hX
      by_cases h0 : 0 < i
      · go_wp2_with fail
        go_roundw
        case rel =>
          refine ⟨i + 1, _, rfl, by go_num, by omega, ?_, ?_⟩
          rotate_left
          · trivial
          show _ = _
          rw [HJ.out, if_pos h0, ← hS.out, bytes_append, bytes_append, HX.out]
        case measure => simp [intOf]; omega
      · obtain rfl : i = 0 := by omega
        go_wp2_with fail
        go_roundw
        case rel =>
          refine ⟨1, _, rfl, by go_num, by omega, ?_, ?_⟩
          rotate_left
          · trivial
          show _ = _
          have h := HJ.out
          rw [Nat.zero_add, if_neg (by omega), List.nil_append] at h
          have h2 := hS.out
          rw [List.take_zero, jn_nil] at h2
          rw [h, bytes_append, h2, HX.out]
          rfl
        case measure => simp [intOf]; omega
    · obtain rfl : i = ws.length := by omega
      go_wp2
      go_returns
      have h := hS.out
      rw [List.take_length] at h
      refine ⟨?_, rfl⟩
      rw [← h, Lib.mk_data]; rfl
theorem conv_digit (c : UInt8) (n : Int) (hn : (c.toNat : Int) = n) (w : World) :
    (convert 22 9 (.slice (some ⟨w.heap.size, 0, none⟩) 1 1)).run Tryz.prog (w.alloc (.cells #[.int .u8 n] 5)) = .ok (.string ⟨#[c]⟩) (w.alloc (.cells #[.int .u8 n] 5)) := by
  refine run_convert_bytes_back (P := Tryz.prog) _ 22 9 5 ⟨w.heap.size, 0, none⟩ 1 [c] Tryz.underlying22 Tryz.underlying5 Tryz.underlying9 ?_
  intro j hj
  obtain rfl : j = 0 := by simp at hj; omega
  show (w.alloc _).cell? ⟨w.heap.size, 0, none⟩ = _
  rw [new_cell, ← hn]; rfl
set_option maxRecDepth 100000 in
set_option maxHeartbeats 1000000 in
theorem l6Dec_4 (w : World) : Calls Tryz.prog 71 #[.int .i64 4] w fun e w' => e = .returned (.string ⟨#[52]⟩) ∧ Below w.heap.size w w' := by
  have hcv := conv_digit 52 52 rfl w
  go_enter Tryz.func71, Tryz.ntmps71
  go_wp2_with fail
  go_returns
  exact ⟨rfl, by repeat' (first | (with_reducible exact Below.refl _ _) | (with_reducible assumption) | (with_reducible refine Below.alloc ?_ ?_ _) | (with_reducible refine below_more ?_ ?_ _ _) | (with_reducible refine below_rd ?_ ?_ _ _) | (with_reducible refine Below.drew ?_) | (with_reducible refine Below.setCell ?_ ?_ _) | go_size)⟩
set_option maxRecDepth 100000 in
set_option maxHeartbeats 1000000 in
theorem l6Dec_5 (w : World) : Calls Tryz.prog 71 #[.int .i64 5] w fun e w' => e = .returned (.string ⟨#[53]⟩) ∧ Below w.heap.size w w' := by
  have hcv := conv_digit 53 53 rfl w
  go_enter Tryz.func71, Tryz.ntmps71
  go_wp2_with fail
  go_returns
  exact ⟨rfl, by repeat' (first | (with_reducible exact Below.refl _ _) | (with_reducible assumption) | (with_reducible refine Below.alloc ?_ ?_ _) | (with_reducible refine below_more ?_ ?_ _ _) | (with_reducible refine below_rd ?_ ?_ _ _) | (with_reducible refine Below.drew ?_) | (with_reducible refine Below.setCell ?_ ?_ _) | go_size)⟩
set_option maxRecDepth 100000 in
set_option maxHeartbeats 1000000 in
theorem l6Dec_6 (w : World) : Calls Tryz.prog 71 #[.int .i64 6] w fun e w' => e = .returned (.string ⟨#[54]⟩) ∧ Below w.heap.size w w' := by
  have hcv := conv_digit 54 54 rfl w
  go_enter Tryz.func71, Tryz.ntmps71
  go_wp2_with fail
  go_returns
  exact ⟨rfl, by repeat' (first | (with_reducible exact Below.refl _ _) | (with_reducible assumption) | (with_reducible refine Below.alloc ?_ ?_ _) | (with_reducible refine below_more ?_ ?_ _ _) | (with_reducible refine below_rd ?_ ?_ _ _) | (with_reducible refine Below.drew ?_) | (with_reducible refine Below.setCell ?_ ?_ _) | go_size)⟩
set_option maxRecDepth 100000 in
set_option maxHeartbeats 1000000 in
theorem l6Dec_7 (w : World) : Calls Tryz.prog 71 #[.int .i64 7] w fun e w' => e = .returned (.string ⟨#[55]⟩) ∧ Below w.heap.size w w' := by
  have hcv := conv_digit 55 55 rfl w
  go_enter Tryz.func71, Tryz.ntmps71
  go_wp2_with fail
  go_returns
  exact ⟨rfl, by repeat' (first | (with_reducible exact Below.refl _ _) | (with_reducible assumption) | (with_reducible refine Below.alloc ?_ ?_ _) | (with_reducible refine below_more ?_ ?_ _ _) | (with_reducible refine below_rd ?_ ?_ _ _) | (with_reducible refine Below.drew ?_) | (with_reducible refine Below.setCell ?_ ?_ _) | go_size)⟩
set_option maxRecDepth 100000 in
set_option maxHeartbeats 1000000 in
theorem l6Dec_8 (w : World) : Calls Tryz.prog 71 #[.int .i64 8] w fun e w' => e = .returned (.string ⟨#[56]⟩) ∧ Below w.heap.size w w' := by
  have hcv := conv_digit 56 56 rfl w
  go_enter Tryz.func71, Tryz.ntmps71
  go_wp2_with fail
  go_returns
  exact ⟨rfl, by repeat' (first | (with_reducible exact Below.refl _ _) | (with_reducible assumption) | (with_reducible refine Below.alloc ?_ ?_ _) | (with_reducible refine below_more ?_ ?_ _ _) | (with_reducible refine below_rd ?_ ?_ _ _) | (with_reducible refine Below.drew ?_) | (with_reducible refine Below.setCell ?_ ?_ _) | go_size)⟩
set_option maxRecDepth 100000 in
set_option maxHeartbeats 1000000 in
theorem l6Dec_9 (w : World) : Calls Tryz.prog 71 #[.int .i64 9] w fun e w' => e = .returned (.string ⟨#[57]⟩) ∧ Below w.heap.size w w' := by
  have hcv := conv_digit 57 57 rfl w
  go_enter Tryz.func71, Tryz.ntmps71
  go_wp2_with fail
  go_returns
  exact ⟨rfl, by repeat' (first | (with_reducible exact Below.refl _ _) | (with_reducible assumption) | (with_reducible refine Below.alloc ?_ ?_ _) | (with_reducible refine below_more ?_ ?_ _ _) | (with_reducible refine below_rd ?_ ?_ _ _) | (with_reducible refine Below.drew ?_) | (with_reducible refine Below.setCell ?_ ?_ _) | go_size)⟩

theorem l6Dec_digit (k : Nat) (h4 : 4 ≤ k) (h9 : k ≤ 9) (w : World) :
    Calls Tryz.prog 71 #[.int .i64 k] w fun e w' => e = .returned (.string ⟨#[UInt8.ofNat (48 + k)]⟩) ∧ Below w.heap.size w w' := by
  have hk : k = 4 ∨ k = 5 ∨ k = 6 ∨ k = 7 ∨ k = 8 ∨ k = 9 := by omega
  rcases hk with rfl | rfl | rfl | rfl | rfl | rfl
  · exact l6Dec_4 w
  · exact l6Dec_5 w
  · exact l6Dec_6 w
  · exact l6Dec_7 w
  · exact l6Dec_8 w
  · exact l6Dec_9 w
/-- A digit. -/
def decS (k : Nat) : ByteArray := ⟨#[UInt8.ofNat (48 + k)]⟩
theorem decS_size (k : Nat) : (decS k).size = 1 := rfl
theorem decS_data (k : Nat) : ((⟨#[114]⟩ : ByteArray) ++ decS k).data.toList = [114, UInt8.ofNat (48 + k)] := by rw [bytes_append]; rfl
theorem l6Dec_decS (k : Nat) (h4 : 4 ≤ k) (h9 : k ≤ 9) (w : World) :
    Calls Tryz.prog 71 #[.int .i64 k] w fun e w' => e = .returned (.string (decS k)) ∧ Below w.heap.size w w' := l6Dec_digit k h4 h9 w
end Go.Proofs.YthojdoiffkdikaaGreatDoor
