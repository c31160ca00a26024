/- Tidy designs: wheels of no radius are struck; wheels are sorted by their speeds. -/
import Derived.Test.YthojdoiffkdikaaGreatDoorDesB
import Derived.Deep.MidRow
namespace Go.Proofs.YthojdoiffkdikaaGreatDoor
open Go.RowKit

theorem OwnsW.there {w : World} {B g n cap : Nat} {xs : List W9} (h : OwnsW w B (.slice (some ⟨g, 0, none⟩) n cap) xs) (hn : xs.length = n) (o m : Nat) (hm : o + m ≤ 9 * n) : w.there g o m := by
  subst hn
  intro j hj
  refine ⟨?_, World.ownsRow.frozenAt h _⟩
  rw [World.ownsRow.cellAt h _ (by omega), Array.getElem?_toList, rowsW_get _ _ (by omega)]; rfl
theorem OwnsW.capN {w : World} {B g n cap : Nat} {xs : List W9} (h : OwnsW w B (.slice (some ⟨g, 0, none⟩) n cap) xs) : n ≤ cap := by
  rcases h.2 with ⟨h0, -⟩ | ⟨g', cap', cur, hv, -, -, hc1, -⟩
  · cases h0
  · simp only [Value.slice.injEq] at hv
    omega
theorem infoW9x (x : W9) : (Tryz.prog.info? 61).map (·.size) = some (rowW x).size := infoW9
theorem idxZ_none {xs : List W9} (h : ∀ x ∈ xs, nz x = true) : idxZ xs = -1 := by
  unfold idxZ Lib.idxBy
  have : ∀ (l : List W9) (i : Nat), (∀ x ∈ l, nz x = true) → Lib.idxByFrom (fun _ (y : W9) => !nz y) default l i = -1 := by
    intro l
    induction l with
    | nil => intro i _; rfl
    | cons y l ih =>
      intro i h
      rw [Lib.idxByFrom, if_neg (by rw [h y (by simp)]; decide), ih (i + 1) fun x hx => h x (by simp [hx])]
  exact this xs 0 h
theorem idxZ_some {xs : List W9} (h : ∃ x ∈ xs, nz x = false) : ∃ i, i < xs.length ∧ idxZ xs = (i : Int) ∧ nz (xs.getD i W9.zero) = false ∧ keepW (xs.take i) = xs.take i := by
  unfold idxZ Lib.idxBy
  have : ∀ (l : List W9) (k : Nat), (∃ x ∈ l, nz x = false) → ∃ i, i < l.length ∧ Lib.idxByFrom (fun _ (y : W9) => !nz y) default l k = ((k + i : Nat) : Int) ∧ nz (l.getD i W9.zero) = false ∧ keepW (l.take i) = l.take i := by
    intro l
    induction l with
    | nil => intro k h; simp at h
    | cons y l ih =>
      intro k h
      rcases Bool.eq_false_or_eq_true (nz y) with hy | hy
      · obtain ⟨i, h1, h2, h3, h4⟩ := ih (k + 1) (by
          obtain ⟨x, hx, e⟩ := h
          rcases List.mem_cons.1 hx with rfl | hx
          · rw [hy] at e; cases e
          · exact ⟨x, hx, e⟩)
        refine ⟨i + 1, by simp; omega, ?_, h3, ?_⟩
        · rw [Lib.idxByFrom, if_neg (by rw [hy]; decide), h2]; congr 1; omega
        · unfold keepW at h4 ⊢
          rw [List.take_succ_cons, List.filter_cons, if_pos hy, h4]
      · exact ⟨0, by simp, by rw [Lib.idxByFrom, if_pos (by rw [hy]; rfl)]; rfl, hy, rfl⟩
  obtain ⟨i, h1, h2, h3⟩ := this xs 0 h
  exact ⟨i, h1, by rw [h2]; congr 1; omega, h3⟩
theorem keepW_all {xs : List W9} (h : ∀ x ∈ xs, nz x = true) : keepW xs = xs := List.filter_eq_self.2 h
/-- 'clear' on a row of wheels. -/
theorem run_clearW (w : World) (b o n c : Nat) (ty : TypeId) (hn : 0 < n) (ht : w.there b o (9 * n)) :
    (Builtin.clear_ #[31] ty #[.slice (some ⟨b, o, none⟩) n c]).run Tryz.prog w = .ok (.tuple #[]) (w.setCells b o (List.replicate (9 * n) (.int .i64 0))) := by
  have hzc : (Builtin.zeroCells #[Value.int IntKind.i64 0, Value.int IntKind.i64 0, Value.int IntKind.i64 0, Value.int IntKind.i64 0, Value.int IntKind.i64 0, Value.int IntKind.i64 0, Value.int IntKind.i64 0, Value.int IntKind.i64 0, Value.int IntKind.i64 0] n).toList = List.replicate (9 * n) (.int .i64 0) := by
    apply List.ext_getElem?
    intro m
    have h9 : ∀ r, r < 9 → (#[Value.int IntKind.i64 0, Value.int IntKind.i64 0, Value.int IntKind.i64 0, Value.int IntKind.i64 0, Value.int IntKind.i64 0, Value.int IntKind.i64 0, Value.int IntKind.i64 0, Value.int IntKind.i64 0, Value.int IntKind.i64 0])[r]! = Value.int IntKind.i64 0 := by
      intro r hr
      have : r = 0 ∨ r = 1 ∨ r = 2 ∨ r = 3 ∨ r = 4 ∨ r = 5 ∨ r = 6 ∨ r = 7 ∨ r = 8 := by omega
      rcases this with rfl | rfl | rfl | rfl | rfl | rfl | rfl | rfl | rfl <;> rfl
    rw [Array.getElem?_toList, List.getElem?_replicate]
    unfold Builtin.zeroCells
    rw [Array.getElem?_map]
    by_cases hm : m < 9 * n
    · rw [if_pos hm, Array.getElem?_range, if_pos (by show m < n * 9; omega)]
      exact congrArg some (h9 (m % 9) (Nat.mod_lt _ (by decide)))
    · rw [if_neg hm, Array.getElem?_eq_none (by simp; omega)]; rfl
  have hst := run_storeCells_cells (P := Tryz.prog) b o (List.replicate (9 * n) (.int .i64 0)) 0 w (by intro j hj; simp at hj; exact (ht j hj).1) (by intro j hj; simp at hj; exact (ht j hj).2) (by intro v hv'; rw [List.eq_of_mem_replicate hv']; rfl)
  simp only [Nat.add_zero] at hst
  have hv := Tryz.zeroValue61
  obtain ⟨m, hm⟩ : ∃ m, n = m + 1 := ⟨n - 1, by omega⟩
  rw [← hzc] at hst ⊢
  subst hm
  simp [Builtin.clear_, run_underlying Tryz.underlying31, hv, Value.cells, hst]
/-- The wheels kept so far. -/
theorem keepW_step {xs : List W9} {j : Nat} {x : W9} (hj : j < xs.length) (hx : xs.getD j W9.zero = x) : keepW (xs.take (j + 1)) = if nz x = true then keepW (xs.take j) ++ [x] else keepW (xs.take j) := by
  unfold keepW
  rw [List.take_succ_eq_append_getElem hj, List.filter_append]
  have e : xs[j] = x := by rw [← hx, List.getD_eq_getElem?_getD, List.getElem?_eq_getElem hj]; rfl
  rw [e, List.filter_cons]
  split
  · rfl
  · simp
theorem take_set_kept {ys : List W9} {i : Nat} {x : W9} (hi : i < ys.length) : (ys.set i x).take (i + 1) = ys.take i ++ [x] := by
  rw [List.take_set, List.take_succ_eq_append_getElem hi, List.set_append_right _ _ (by rw [List.length_take]; omega), List.length_take, Nat.min_eq_left (by omega), Nat.sub_self]
  rfl
/-- A row's first wheels, behind zeros laid from a place on. -/
theorem OwnsW.cut {w : World} {B g cap n : Nat} {ys : List W9} (h : OwnsW w B (.slice (some ⟨g, 0, none⟩) n cap) ys) (hn : ys.length = n) (i : Nat) (hi : i ≤ n) (us : List Value) (hu : us.length = 9 * (n - i)) :
    OwnsW (w.setCells g (i * 9) us) B (.slice (some ⟨g, 0, none⟩) i cap) (ys.take i) ∧ w.grownBy (w.setCells g (i * 9) us) (some g) := by
  subst hn
  obtain ⟨h1, h2⟩ := storedMany us (i * 9) h
  refine ⟨?_, h2⟩
  have hl : (ys.take i).length = i := by rw [List.length_take]; omega
  unfold OwnsW
  refine ⟨by rw [rowsWL_len, hl]; omega, ?_⟩
  rcases h1.2 with ⟨h0, -⟩ | ⟨g', cap', cur, hv, hb, hg, hc1, hc2, hc3, hc4⟩
  · cases h0
  · cases hv
    refine Or.inr ⟨g, cap, cur, by rw [hl], hb, hg, by omega, hc2, hc3, ?_⟩
    rw [hl]
    apply List.ext_getElem?
    intro m
    have e : (cur.toList.take (ys.length * 9))[m]? = (setsL (rowsW ys).toList (i * 9) us)[m]? := congrArg (fun l => l[m]?) hc4
    rw [setsL_get _ _ _ _ (by rw [rowsWL_len]; omega)] at e
    by_cases hm : m < i * 9
    · rw [List.getElem?_take_of_lt hm]
      rw [List.getElem?_take_of_lt (by omega), if_neg (by omega)] at e
      rw [e, Array.getElem?_toList, Array.getElem?_toList, rowsW_get _ _ (by omega), rowsW_get _ _ (by rw [hl]; omega), List.getD_eq_getElem?_getD, List.getD_eq_getElem?_getD, List.getElem?_take_of_lt (by omega)]
    · rw [List.getElem?_eq_none (by rw [List.length_take]; omega), List.getElem?_eq_none (by rw [rowsWL_len, hl]; omega)]
/-- How DeleteFunc stands. -/
structure DelSt (w wr : World) (xs ys : List W9) (B g cap i j : Nat) : Prop where
  own : OwnsW wr B (.slice (some ⟨g, 0, none⟩) xs.length cap) ys
  gr : w.grownBy wr (some g)
  len : ys.length = xs.length
  done : ys.take i = keepW (xs.take j)
  rest : ys.drop j = xs.drop j
section
variable {w wr : World} {xs ys : List W9} {B g cap i j : Nat} {x : W9}
theorem DelSt.grow (h : DelSt w wr xs ys B g cap i j) (o : Obj) (os : Array Obj) (d : Nat) : DelSt w (Go.Proofs.YthojdoiffkdikaaGreatDoor.more (wr.alloc o) os d) xs ys B g cap i j :=
  ⟨(h.own.alloc o).more os d, grownBy_trans2 h.gr (by
    have hb := below_more ((Below.refl wr.heap.size wr).alloc (Nat.le_refl _) o) (by simp) os d
    exact ⟨hb.os, hb.tape, hb.output, hb.size, fun k hk _ => hb.block k hk⟩), h.len, h.done, h.rest⟩
theorem DelSt.skip (h : DelSt w wr xs ys B g cap i j) (hj : j < xs.length) (hx : xs.getD j W9.zero = x) (hz : nz x = false) : DelSt w wr xs ys B g cap i (j + 1) :=
  ⟨h.own, h.gr, h.len, by rw [keepW_step hj hx, if_neg (by rw [hz]; decide), h.done], by rw [← List.drop_drop, ← List.drop_drop, h.rest]⟩
theorem DelSt.put (h : DelSt w wr xs ys B g cap i j) (hij : i < j) (hj : j < xs.length) (hx : xs.getD j W9.zero = x) (hz : nz x = true) : DelSt w (wr.setCells g (i * 9) (rowW x).toList) xs (ys.set i x) B g cap (i + 1) (j + 1) := by
  have ho := h.own
  have hl := h.len
  rw [← hl] at ho
  have hi : i < ys.length := by omega
  obtain ⟨o2, g2⟩ := ho.wh i hi x
  rw [hl] at o2
  refine ⟨o2, grownBy_trans2 h.gr g2, by rw [List.length_set, hl], by rw [take_set_kept hi, h.done, keepW_step hj hx, if_pos hz], ?_⟩
  rw [List.drop_set_of_lt (by omega), ← List.drop_drop, ← List.drop_drop, h.rest]
end
set_option maxRecDepth 100000 in
set_option maxHeartbeats 4000000 in
theorem deleteFunc_any (g cap B : Nat) (xs : List W9) (w : World) (h : OwnsW w B (.slice (some ⟨g, 0, none⟩) xs.length cap) xs) (hn : xs.length ≤ 1048576) :
    Calls Tryz.prog 108 #[.slice (some ⟨g, 0, none⟩) xs.length cap, .func (.func 109) #[] #[]] w fun e w' =>
      e = .returned (.slice (some ⟨g, 0, none⟩) (keepW xs).length cap) ∧ OwnsW w' B (.slice (some ⟨g, 0, none⟩) (keepW xs).length cap) (keepW xs) ∧ w.grownBy w' (some g) := by
  have hg : g < w.heap.size := (World.ownsRow.lt h g rfl).2
  have HO := Lib.hid h
  clear h
  by_cases hf : ∃ x ∈ xs, nz x = false
  · obtain ⟨i0, hi1, hi2, hi3, hi4⟩ := idxZ_some hf
    have HI := Lib.hid hi2
    have HI3 := Lib.hid hi3
    have HI4 := Lib.hid hi4
    have hm1 : ((i0 : Int) == -1) = false := by rw [beq_eq_false_iff_ne]; omega
    clear hf hi2 hi3 hi4
    go_enter Tryz.func108, Tryz.ntmps108
    go_wp2_with (go_at_call 105; go_must (refine (indexZ_any g cap xs _ hg HO.out.lie hn).mono ?_; rintro e w1 ⟨rfl, hb⟩; rw [HI.out]; have HO1 := Lib.hid (HO.out.keep hb); have HB1 := Lib.hid hb; clear hb))
    go_loopw [5, 6] (fun s5 s6 wr => ∃ (i j : Nat) (ys : List W9), s5 = .int .i64 i ∧ s6 = .int .i64 j ∧ i < j ∧ j ≤ xs.length ∧ Hid (DelSt w wr xs ys B g cap i j)) (fun _ s6 _ => xs.length - (intOf s6).toNat)
    case atStart => exact ⟨i0, i0 + 1, xs, rfl, by go_num, by omega, by omega, ⟨HO1.out, ⟨HB1.out.os, HB1.out.tape, HB1.out.output, HB1.out.size, fun k hk _ => HB1.out.block k hk⟩, rfl, by rw [keepW_step hi1 rfl, if_neg (by rw [HI3.out]; decide), HI4.out], rfl⟩⟩
    case round =>
      obtain ⟨i, j, ys, rfl, rfl, hij, hj, hst⟩ := hrel
      have hgr : g < wr.heap.size := (World.ownsRow.lt hst.out.own g rfl).2
      by_cases hlt : j < xs.length
      · obtain ⟨x, hx⟩ : ∃ x, xs.getD j W9.zero = x := ⟨_, rfl⟩
        have hxy : ys.getD j W9.zero = x := by
          have e := congrArg (fun l => l[0]?) hst.out.rest
          simp only [List.getElem?_drop, Nat.add_zero] at e
          rw [← hx, List.getD_eq_getElem?_getD, e, List.getD_eq_getElem?_getD]
        have ho := hst.out.own
        rw [← hst.out.len] at ho
        have hK := ho.lie j (by rw [hst.out.len]; exact hlt)
        rw [Nat.zero_add, hxy] at hK
        have HK := Lib.hid hK
        have HX := Lib.hid hx
        clear ho hK hxy hx
        rcases Bool.eq_false_or_eq_true (nz x) with hnz | hnz
        · go_wp2_with (first
            | ((with_reducible refine wpList_load_wh (op := ⟨some 25, .load 61 (.tmp 24), _, _, _, _⟩) rfl _ _ rfl g (j * 9) _ HK.out _ Tryz.underlying61 rfl infoW9 ?_ ?_); (focus rfl))
            | (go_at_call 109; refine (tidied2_any _ _).mono ?_; rintro e w' ⟨rfl, hb⟩; obtain ⟨os, d, rfl⟩ := more_of_below hb; clear hb)
            | ((with_reducible refine wpList_store_mid (op := ⟨none, .store 61 (.tmp 33) (.tmp 32), _, _, _, _⟩) rfl _ _ _ rfl g (i * 9) (rowW x) ?_ ?_ ?_ (infoW9x x) (rowWL_one x) ?_); (focus rfl); (focus rfl); (focus (exact (hst.out.grow _ os d).own.there hst.out.len _ _ (by show i * 9 + 9 ≤ _; omega))); have h5 := (hst.out.grow (.cells (rowW x) 61) os d).put hij hlt HX.out hnz; generalize (Go.Proofs.YthojdoiffkdikaaGreatDoor.more (wr.alloc (.cells (rowW x) 61)) os d).setCells g (i * 9) (rowW x).toList = W5 at h5 ⊢; have H5 := Lib.hid h5; clear h5))
          go_roundw
          case rel => exact ⟨i + 1, j + 1, ys.set i x, by go_num, by go_num, by omega, by omega, H5.out⟩
          case measure => simp [intOf]; omega
        · go_wp2_with (first
            | ((with_reducible refine wpList_load_wh (op := ⟨some 25, .load 61 (.tmp 24), _, _, _, _⟩) rfl _ _ rfl g (j * 9) _ HK.out _ Tryz.underlying61 rfl infoW9 ?_ ?_); (focus rfl))
            | (go_at_call 109; refine (tidied2_any _ _).mono ?_; rintro e w' ⟨rfl, hb⟩; obtain ⟨os, d, rfl⟩ := more_of_below hb; clear hb))
          go_roundw
          case rel => exact ⟨i, j + 1, ys, rfl, by go_num, by omega, by omega, (hst.out.grow _ _ _).skip hlt HX.out hnz⟩
          case measure => simp [intOf]; omega
      · obtain rfl : j = xs.length := by omega
        have hd := hst.out.done
        rw [List.take_length] at hd
        have hi : i ≤ xs.length := by omega
        have hil : (keepW xs).length = i := by rw [← hd, List.length_take, hst.out.len]; omega
        have hcut := hst.out.own.cut hst.out.len i hi (List.replicate (9 * (xs.length - i)) (.int .i64 0)) (by simp)
        rw [hd] at hcut
        have hcl : ∀ ty, (Builtin.clear_ #[31] ty #[.slice (some ⟨g, i * 9, none⟩) (xs.length - i) (cap - i)]).run Tryz.prog wr = .ok (.tuple #[]) (wr.setCells g (i * 9) (List.replicate (9 * (xs.length - i)) (.int .i64 0))) :=
          fun ty => run_clearW wr g (i * 9) (xs.length - i) (cap - i) ty (by omega) (hst.out.own.there hst.out.len _ _ (by omega))
        generalize wr.setCells g (i * 9) (List.replicate (9 * (xs.length - i)) (.int .i64 0)) = W6 at hcut hcl
        have HC := Lib.hid hcut
        have HL := Lib.hid hil
        have hG := Lib.hid (grownBy_trans2 hst.out.gr hcut.2)
        have hcc : (xs.length : Int) ≤ (cap : Int) := by have := hst.out.own.capN; omega
        have hi0 : (0 : Int) ≤ (i : Int) := by omega
        have hi1 : (i : Int) ≤ (xs.length : Int) := by omega
        have hi2 : (i : Int) ≤ (cap : Int) := by omega
        clear hcut hil hd hst
        go_wp2_with fail
        go_returns
        rw [HL.out]
        exact ⟨rfl, HC.out.1, hG.out⟩
  · have hall : ∀ x ∈ xs, nz x = true := fun x hx => by
      rcases Bool.eq_false_or_eq_true (nz x) with e | e
      · exact e
      · exact absurd ⟨x, hx, e⟩ hf
    have HI := Lib.hid (idxZ_none hall)
    have HK := Lib.hid (keepW_all hall)
    clear hf hall
    go_enter Tryz.func108, Tryz.ntmps108
    go_wp2_with (go_at_call 105; go_must (refine (indexZ_any g cap xs _ hg HO.out.lie hn).mono ?_; rintro e w1 ⟨rfl, hb⟩; rw [HI.out]; have HO1 := Lib.hid (HO.out.keep hb); have HB1 := Lib.hid hb; clear hb))
    go_returns
    rw [HK.out]
    exact ⟨rfl, HO1.out, ⟨HB1.out.os, HB1.out.tape, HB1.out.output, HB1.out.size, fun k hk _ => HB1.out.block k hk⟩⟩
end Go.Proofs.YthojdoiffkdikaaGreatDoor
