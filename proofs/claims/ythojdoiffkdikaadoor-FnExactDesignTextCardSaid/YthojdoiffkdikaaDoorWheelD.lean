/- Designs that came in as an argument of a law; the laws' own copies and comparisons of designs. -/
import Derived.Test.YthojdoiffkdikaaDoorWheelA
import Derived.Test.YthojdoiffkdikaaDoorRowLaw
namespace Go.Proofs.YthojdoiffkdikaaDoor
open Go.ChangeShapes Go.WideShapes Go.ChangeAt Go.RowKit Go.Joins Go.Deep

theorem cellsW : Tryd.prog.cellsOf 61 = 9 := by kernel_rfl
theorem wheel_fields {H : Type} {enc : TypeId × Value → H} {W : World} {base : Nat} {spare : Nat → Bool} {held : Bool} {fuel : Nat} {cs : List Value} {x : DataW H × List MemPlace}
    (h : DataW.trod enc Tryd.prog W base spare held fuel 61 cs = some x) : ∃ c : W9, cs = (rowW c).toList := by
  obtain ⟨y0, y1, n, -, hl, h0, h1⟩ := trod_struct2 Tryd.underlying61 h
  have hl9 : cs.length = 9 := by rw [hl, cellsW]
  have h0' : DataW.trod enc Tryd.prog W base spare held n 3 ((cs.drop 0).take (Tryd.prog.cellsOf 3)) = some y0 := h0
  have h1' : DataW.trod enc Tryd.prog W base spare held n 59 ((cs.drop 1).take (Tryd.prog.cellsOf 59)) = some y1 := h1
  rw [cellsI] at h0'
  rw [cellsC] at h1'
  obtain ⟨s, hs, -, -⟩ : ∃ s : Int, (cs.drop 0).take 1 = [.int .i64 s] ∧ True ∧ True := by
    cases cs with
    | nil => simp at hl9
    | cons c cs =>
      have e : ((c :: cs).drop 0).take 1 = [c] := rfl
      rw [e] at h0'
      obtain ⟨s, hs, -, -⟩ := DataW.trod_int Tryd.underlying3 h0'
      exact ⟨s, by rw [e, hs], trivial, trivial⟩
  obtain ⟨r, hr⟩ := cells_cyc h1'
  refine ⟨⟨s, r⟩, ?_⟩
  have e1 : cs = (cs.drop 0).take 1 ++ (cs.drop 1).take 8 := by
    have e2 : (cs.drop 1).take 8 = cs.drop 1 := List.take_of_length_le (by rw [List.length_drop]; omega)
    rw [e2, List.drop_zero, List.take_append_drop]
  rw [e1, hs, hr]
  rfl
/-- Eight cells that read as a point of a law's are a point. -/
theorem cells_wheel {H : Type} {enc : TypeId × Value → H} {W : World} {base : Nat} {spare : Nat → Bool} {held : Bool} {fuel : Nat} {cs : List Value} {x : DataW H × List MemPlace}
    (h : DataW.trod enc Tryd.prog W base spare held fuel 61 cs = some x) : ∃ c : W9, cs = (rowW c).toList := by
  exact wheel_fields h

set_option maxRecDepth 100000 in
theorem open_wheels {H : Type} {enc : TypeId × Value → H} {W : World} {r : Reach} {b0 : Nat} {held : Bool} {v : Value} {d : DataW H} {p : List MemPlace}
    (hv : Value.okWide Tryd.prog W r b0 28 v) (h : DataW.Trod enc Tryd.prog W 0 (fun _ => true) held 28 v d p) :
    ∃ (a : Option Addr) (cap : Nat) (xs : List W9), v = .slice a xs.length cap ∧ xs.length ≤ cap ∧ HasWC W W.heap.size a xs ∧ xs.length ≤ 9223372036854775807 := by
  obtain ⟨a, len, cap, rfl⟩ := okWide_slice Tryd.underlying28 hv
  obtain ⟨fuel, hf⟩ := h
  rcases open_slice Tryd.underlying28 hf with ⟨hcs, -⟩ | ⟨x, l, c, m, n, D, Pl, hcs, -, hl, hm, hmm, -, hi⟩
  · simp [Value.cells] at hcs
    obtain ⟨rfl, rfl, rfl⟩ := hcs
    exact ⟨none, 0, [], rfl, Nat.le_refl _, Or.inl rfl, by simp⟩
  · simp [Value.cells] at hcs
    obtain ⟨rfl, rfl, rfl⟩ := hcs
    simp only [if_true] at hmm
    subst hmm
    by_cases h0 : len = 0
    · subst h0
      exact ⟨some x, m, [], rfl, by simp, Or.inl rfl, by simp⟩
    · have key : ∀ i, i < len → ∃ c : W9, ∀ j, j < 9 → W.cell? ((x.add (i * 9)).add j) = some (.int .i64 (c.g j)) := by
        intro i hil
        obtain ⟨cs', hc, ht⟩ := hi i (by omega)
        obtain ⟨c, rfl⟩ := cells_wheel ht
        rw [cellsW] at hc
        obtain ⟨_, hcl, hat⟩ := World.cells?_some hc
        exact ⟨c, fun j hj => by rw [hat j hj]; exact rowWL_get c j hj⟩
      obtain ⟨b, off, spot⟩ := x
      obtain ⟨c0, hc0⟩ := key 0 (by omega)
      have hspot : spot = none := by
        have := hc0 0 (by omega)
        simpa [Addr.add] using World.cell?_spot this
      subst hspot
      have hb : b < W.heap.size := by
        have := hc0 0 (by omega)
        rw [Addr.add_mid, Addr.add_mid] at this
        exact block_lt_of_cell this
      have key2 : ∀ i, i < len → ∃ c : W9, ∀ j, j < 9 → W.cell? ⟨b, off + i * 9 + j, none⟩ = some (.int .i64 (c.g j)) := by
        intro i hil
        obtain ⟨c, hc⟩ := key i hil
        exact ⟨c, fun j hj => by have := hc j hj; rw [Addr.add_mid, Addr.add_mid] at this; exact this⟩
      refine ⟨some ⟨b, off, none⟩, m, (List.range len).map (fun i => if hil : i < len then Classical.choose (key2 i hil) else W9.zero), by simp, by simpa using hl, Or.inr ⟨b, off, rfl, hb, fun i hi2 => ?_⟩, by simp; unfold maxLen at hm; omega⟩
      have hil : i < len := by simpa using hi2
      have e : ((List.range len).map (fun i => if hil : i < len then Classical.choose (key2 i hil) else W9.zero)).getD i W9.zero = Classical.choose (key2 i hil) := by
        rw [List.getD_eq_getElem?_getD, List.getElem?_map, List.getElem?_range hil]; simp [hil]
      rw [e]
      intro j v hv
      have hj : j < 9 := by
        by_cases hj : j < 9
        · exact hj
        · rw [List.getElem?_eq_none (by rw [rowWL_len]; omega)] at hv; cases hv
      have := Classical.choose_spec (key2 i hil) j hj
      rw [this]; rw [rowWL_get _ j hj] at hv; exact hv
theorem infoL9 : (Tryd.prog.info? 61).map (·.size) = some 9 := by kernel_rfl
set_option maxRecDepth 100000 in
theorem toWheelS_any (a : Option Addr) (cap : Nat) (xs : List W9) (w W0 : World) (B : Nat) (hx : HasWC W0 B a xs) (hb : Below B W0 w) (hB : B ≤ w.heap.size) (hn : xs.length ≤ 1048576) (hc : xs.length ≤ cap) :
    Calls Tryd.prog 15 #[.slice a xs.length cap] w fun e w' => e = .returned (.slice (some ⟨w.heap.size, 0, none⟩) xs.length xs.length) ∧ ∃ os d, w' = more (w.alloc (.cells (rowsW xs) 57)) os d := by
  obtain ⟨n, hn'⟩ : ∃ n, xs.length = n := ⟨_, rfl⟩
  rw [hn'] at hn hc ⊢
  have HN := Lib.hid hn'
  clear hn'
  have hmk := mkWheelS n hn
  have HX := Lib.hid hx
  clear hx
  go_enter Tryd.func15, Tryd.ntmps15
  go_wp2
  go_loopw [4] (fun s wr => ∃ k : Nat, k ≤ n ∧ s = .int .i64 k ∧ ∃ os d, wr = more (w.alloc (.cells (rowsW (xs.take k ++ List.replicate (n - k) W9.zero)) 57)) os d) (fun s _ => n - (intOf s).toNat)
  case atStart => exact ⟨0, by omega, rfl, _, _, by rw [List.take_zero, List.nil_append, Nat.sub_zero]; exact more_self _⟩
  case round =>
    obtain ⟨k, hk, rfl, os, d, rfl⟩ := hrel
    by_cases hlt : k < n
    · rcases HX.out with hx | ⟨b, off, rfl, hlt2, hp⟩
      · exfalso; have := HN.out; rw [hx] at this; simp at this; omega
      · have hpk : WhAt (more (w.alloc (.cells (rowsW (xs.take k ++ List.replicate (n - k) W9.zero)) 57)) os d) b (off + k * 9) (xs.getD k W9.zero) := fun j v hv => by
          rw [cell?_more _ _ (by simp; omega), World.cell?_alloc_lt _ _ _ (by show b < w.heap.size; omega), hb.cell (p := ⟨b, off + k * 9 + j, none⟩) hlt2]
          exact hp k (by rw [HN.out]; exact hlt) j v hv
        clear hp
        have hkl : k < (xs.take k ++ List.replicate (n - k) W9.zero).length := by rw [List.length_append, List.length_take, List.length_replicate, HN.out]; omega
        have e0 := take_rep_setW xs k n HN.out hlt
        obtain ⟨x, hxk⟩ : ∃ x, xs.getD k W9.zero = x := ⟨_, rfl⟩
        rw [hxk] at e0 hpk
        have E := Lib.hid e0
        have HP := Lib.hid hpk
        clear hxk e0
        have HK := Lib.hid hkl
        clear hpk hkl
        go_wp2_with (first
          | ((with_reducible refine wpList_load_wh (op := ⟨some 19, .load 61 (.tmp 18), _, _, _, _⟩) rfl _ _ rfl b (off + k * 9) _ HP.out _ Tryd.underlying61 rfl infoL9 ?_ ?_); (focus rfl))
          | ((with_reducible refine wpList_store_wh (op := ⟨none, .store 57 (.tmp 21) (.tmp 20), _, _, _, _⟩) rfl _ _ _ rfl k x HK.out infoW9 ?_ ?_ ?_); (focus rfl); (focus rfl); rw [E.out])
          | (go_at_call 38; refine (toWheel_any _ _).mono ?_; rintro e w' ⟨rfl, hb⟩; obtain ⟨os, d, rfl⟩ := more_of_below hb; clear hb))
        go_roundw
        case rel => exact ⟨k + 1, by omega, by go_num, _, _, rfl⟩
        case measure => simp [intOf]; omega
    · obtain rfl : k = n := by omega
      go_wp2
      go_returns
      exact ⟨rfl, _, _, by rw [List.take_of_length_le (by rw [HN.out]; omega)]⟩

set_option maxRecDepth 100000 in
theorem eqWheelS_none (a a' : Option Addr) (c c' : Nat) (w : World) :
    Calls Tryd.prog 17 #[.slice a 0 c, .slice a' 0 c'] w fun e w' => e = .returned (.bool true) ∧ Below w.heap.size w w' := by
  go_enter Tryd.func17, Tryd.ntmps17
  go_wp2
  go_rounds 1
  all_goals
    go_ret
    exact ⟨rfl, by repeat' (first | (with_reducible exact Below.refl _ _) | (with_reducible assumption) | (with_reducible refine Below.alloc ?_ ?_ _) | (with_reducible refine below_more ?_ ?_ _ _) | (with_reducible refine below_rd ?_ ?_ _ _) | (with_reducible refine Below.drew ?_) | (with_reducible refine Below.setCell ?_ ?_ _) | go_size)⟩
set_option maxRecDepth 100000 in
set_option maxHeartbeats 1000000 in
theorem eqWheelS_some (b b' c c' : Nat) (xs : List W9) (w : World) (hb : b < w.heap.size) (hb' : b' < w.heap.size) (hp : ∀ i, i < xs.length → WhAt w b (i * 9) (xs.getD i W9.zero)) (hp' : ∀ i, i < xs.length → WhAt w b' (i * 9) (xs.getD i W9.zero)) (hn : xs.length ≤ 1048576) :
    Calls Tryd.prog 17 #[.slice (some ⟨b, 0, none⟩) xs.length c, .slice (some ⟨b', 0, none⟩) xs.length c'] w fun e w' => e = .returned (.bool true) ∧ Below w.heap.size w w' := by
  have HP := Lib.hid hp
  have HP' := Lib.hid hp'
  clear hp hp'
  obtain ⟨n, hn'⟩ : ∃ n, xs.length = n := ⟨_, rfl⟩
  rw [hn'] at hn ⊢
  have HN := Lib.hid hn'
  clear hn'
  go_enter Tryd.func17, Tryd.ntmps17
  go_wp2
  go_loopw [5] (fun s wr => ∃ k : Nat, k ≤ n ∧ s = .int .i64 k ∧ ∃ os d, wr = more w os d) (fun s _ => n - (intOf s).toNat)
  case atStart => exact ⟨0, by omega, rfl, _, _, more_self _⟩
  case round =>
    obtain ⟨k, hk, rfl, os, d, rfl⟩ := hrel
    by_cases hlt : k < n
    · have hpk := HP.out k (by rw [HN.out]; exact hlt)
      have hpk' := HP'.out k (by rw [HN.out]; exact hlt)
      obtain ⟨x, hxk⟩ : ∃ x, xs.getD k W9.zero = x := ⟨_, rfl⟩
      rw [hxk] at hpk hpk'
      clear hxk
      obtain ⟨x0, x1, x2, x3, x4, x5, x6, x7, x8⟩ := hpk.cells
      obtain ⟨y0, y1, y2, y3, y4, y5, y6, y7, y8⟩ := hpk'.cells
      have i0 : (0 : Int) ≤ (k : Int) := by omega
      have i1 : (k : Int) < (n : Int) := by omega
      clear hpk hpk'
      go_wp2_with fail
      go_region_held3 (fun w' => (w'.cell? ⟨b, k * 9, none⟩ = some (.int .i64 x.s) ∧ w'.cell? ⟨b, k * 9 + 1, none⟩ = some (.int .i64 x.r.c0) ∧ w'.cell? ⟨b, k * 9 + 2, none⟩ = some (.int .i64 x.r.c1) ∧ w'.cell? ⟨b, k * 9 + 3, none⟩ = some (.int .i64 x.r.c2) ∧ w'.cell? ⟨b, k * 9 + 4, none⟩ = some (.int .i64 x.r.c3) ∧ w'.cell? ⟨b, k * 9 + 5, none⟩ = some (.int .i64 x.r.c4) ∧ w'.cell? ⟨b, k * 9 + 6, none⟩ = some (.int .i64 x.r.c5) ∧ w'.cell? ⟨b, k * 9 + 7, none⟩ = some (.int .i64 x.r.c6) ∧ w'.cell? ⟨b, k * 9 + 8, none⟩ = some (.int .i64 x.r.c7)) ∧ (w'.cell? ⟨b', k * 9, none⟩ = some (.int .i64 x.s) ∧ w'.cell? ⟨b', k * 9 + 1, none⟩ = some (.int .i64 x.r.c0) ∧ w'.cell? ⟨b', k * 9 + 2, none⟩ = some (.int .i64 x.r.c1) ∧ w'.cell? ⟨b', k * 9 + 3, none⟩ = some (.int .i64 x.r.c2) ∧ w'.cell? ⟨b', k * 9 + 4, none⟩ = some (.int .i64 x.r.c3) ∧ w'.cell? ⟨b', k * 9 + 5, none⟩ = some (.int .i64 x.r.c4) ∧ w'.cell? ⟨b', k * 9 + 6, none⟩ = some (.int .i64 x.r.c5) ∧ w'.cell? ⟨b', k * 9 + 7, none⟩ = some (.int .i64 x.r.c6) ∧ w'.cell? ⟨b', k * 9 + 8, none⟩ = some (.int .i64 x.r.c7))) (simp [go_sem, *])
        (first | (go_at_call 41; refine (eqWheel_same _ _).mono ?_; rintro e w' ⟨rfl, hb⟩; obtain ⟨os, d, rfl⟩ := more_of_below hb; clear hb))
      all_goals
        go_wp2
        go_roundw
        case rel => exact ⟨k + 1, by omega, by go_num, _, _, rfl⟩
        case measure => simp [intOf]; omega
    · obtain rfl : k = n := by omega
      go_wp2
      go_ret
      exact ⟨rfl, by repeat' (first | (with_reducible exact Below.refl _ _) | (with_reducible assumption) | (with_reducible refine Below.alloc ?_ ?_ _) | (with_reducible refine below_more ?_ ?_ _ _) | (with_reducible refine below_rd ?_ ?_ _ _) | (with_reducible refine Below.drew ?_) | (with_reducible refine Below.setCell ?_ ?_ _) | go_size)⟩
theorem eqWheelS_same (a a' : Option Addr) (c c' : Nat) (xs : List W9) (w : World) (h : HasW w a xs) (h' : HasW w a' xs) (hn : xs.length ≤ 1048576) :
    Calls Tryd.prog 17 #[.slice a xs.length c, .slice a' xs.length c'] w fun e w' => e = .returned (.bool true) ∧ Below w.heap.size w w' := by
  rcases h with rfl | ⟨b, rfl, hb, hp⟩
  · exact eqWheelS_none _ _ _ _ w
  · rcases h' with rfl | ⟨b', rfl, hb', hp'⟩
    · exact eqWheelS_none _ _ _ _ w
    · exact eqWheelS_some b b' c c' xs w hb hb' hp hp' hn
theorem szWheelS_any (a : Option Addr) (len cap : Nat) (left : Int) (h0 : 0 ≤ left) (h1 : left ≤ 1048576) (hl : len ≤ 9223372036854775807) (w : World) :
    Calls Tryd.prog 13 #[.slice a len cap, .int .i64 left] w fun e w' => e = .returned (.int .i64 (if left < len then -1 else left - len)) ∧ w = w' := by
  by_cases h : left < len
  · rw [if_pos h]
    go_enter Tryd.func13, Tryd.ntmps13
    go_wp2
    go_ret
    exact ⟨rfl, rfl⟩
  · rw [if_neg h]
    go_enter Tryd.func13, Tryd.ntmps13
    go_wp2
    go_ret
    exact ⟨rfl, rfl⟩
end Go.Proofs.YthojdoiffkdikaaDoor
