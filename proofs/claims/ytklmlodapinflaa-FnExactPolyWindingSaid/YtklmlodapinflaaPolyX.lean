/- PolyWinding of the program. -/
import Derived.Test.YtklmlodapinflaaPolyQ
namespace Go.Proofs.Ytklmlodapinflaa
open Go.RowKit Go.Shelf
attribute [local go_sem] Oper.semAt_some

/-- What a side adds. -/
def dlt (c : C8) (x : C8 × C8) : Int :=
  if sgn (C8.sub x.1 c).im ≤ 0 ∧ 0 < sgn (C8.sub x.2 c).im ∧ 0 < sgn (crs (C8.sub x.1 c) (C8.sub x.2 c)) then 1
  else if 0 < sgn (C8.sub x.1 c).im ∧ sgn (C8.sub x.2 c).im ≤ 0 ∧ sgn (crs (C8.sub x.1 c) (C8.sub x.2 c)) < 0 then -1 else 0
theorem dlt_bd (c : C8) (x : C8 × C8) : -1 ≤ dlt c x ∧ dlt c x ≤ 1 := by unfold dlt; split <;> (try split) <;> omega
def wdL (c : C8) (l : List (C8 × C8)) : Int := l.foldl (fun s x => s + dlt c x) 0
theorem wdL_snoc (c : C8) (l : List (C8 × C8)) (x : C8 × C8) : wdL c (l ++ [x]) = wdL c l + dlt c x := by simp [wdL]
theorem wdL_bd (c : C8) : ∀ (n : Nat) (l : List (C8 × C8)), l.length = n → -(n : Int) ≤ wdL c l ∧ wdL c l ≤ n
  | 0, l, h => by rw [List.length_eq_zero_iff.1 h]; simp [wdL]
  | n + 1, l, h => by
    have hne : l ≠ [] := by intro e; rw [e] at h; simp at h
    obtain ⟨p, x, rfl⟩ : ∃ p x, l = p ++ [x] := ⟨l.dropLast, l.getLast hne, (List.dropLast_concat_getLast hne).symm⟩
    rw [wdL_snoc]
    have h1 := wdL_bd c n p (by simpa using h)
    have h2 := dlt_bd c x
    omega
def wdS (c : C8) (l : List (Sd SdSm)) : Int := wdL c (l.map (·.1))
theorem wdS_snoc (c : C8) (l : List (Sd SdSm)) (x : Sd SdSm) : wdS c (l ++ [x]) = wdS c l + dlt c x.1 := by unfold wdS; rw [List.map_append]; exact wdL_snoc _ _ _
theorem wdS_bd {c : C8} {l : List (Sd SdSm)} (h : l.length ≤ 48) : -48 ≤ wdS c l ∧ wdS c l ≤ 48 := by
  have := wdL_bd c l.length (l.map (·.1)) (by simp)
  unfold wdS; omega
/-- A number in a block of its own. -/
def IntAt (W : World) (B : Nat) (v : Int) : Prop := W.cell? ⟨B, 0, none⟩ = some (.int .i64 v) ∧ W.frozen? ⟨B, 0, none⟩ = false
theorem IntAt.own (B : Nat) {β : Type} (f : β → Int) : Own (fun s W => IntAt W B (f s)) := fun _ _ _ _ hs hg hr => ⟨cell_kept hs.1 hg hr, (frozen_kept hs.1 hg hr).trans hs.2⟩
theorem IntAt.below {W W' : World} {B n : Nat} {v : Int} (h : IntAt W B v) (hb : Below n W W') (hB : B < n) : IntAt W' B v := by
  have e : W'.heap[B]? = W.heap[B]? := by obtain ⟨_, _, _, _, h5⟩ := hb; exact h5 B hB
  exact ⟨(World.cell?_of_block (w := W) e).trans h.1, (World.frozen?_of_block (w := W) e).trans h.2⟩
theorem IntAt.lt {W : World} {B : Nat} {v : Int} (h : IntAt W B v) : B < W.heap.size := block_lt_of_cell h.1
theorem IntAt.store {W : World} {B : Nat} {v : Int} (h : IntAt W B v) (v' : Int) : IntAt (W.setCell ⟨B, 0, none⟩ (.int .i64 v')) B v' :=
  ⟨World.cell?_setCell_same' _ _ _ (by rw [h.1]; rfl), by rw [World.frozen?_setCell]; exact h.2⟩
theorem drew_more2 (w : World) (os : Array Obj) (d : Nat) : (more w os d).drew = more w os (d + 1) := rfl
set_option maxRecDepth 100000 in
set_option maxHeartbeats 16000000 in
theorem polyWinding_in (b cap : Nat) (xs : List C8) (c : C8) (hok : plOk xs = true) (hokc : okM c 100 = true) (hno : onA xs c = false) (hSd : ∀ k, k < xs.length → SdSm (sideOf xs k)) (hlen : xs.length ≤ 48) (w : World) (hb : b < w.heap.size) (hc : ∀ i, i < xs.length → PtAt w b (i * 8) (xs.getD i C8.zero)) :
    CallsIn Fence.wide 2 Try.prog 40 #[.slice (some ⟨b, 0, none⟩) xs.length cap, cv c] w fun e W' => e = .returned (.tuple #[.int .i64 (wdL c (sidesUpto xs xs.length)), .bool true]) ∧ Below w.heap.size w W' := by
  have HC := Lib.hid hc
  have HS := Lib.hid hSd
  have HCL := Lib.hid (okM_lim hokc)
  have HV : Hid (∀ w', Below w.heap.size w w' → CallsIn Fence.wide 1 Try.prog 80 #[.slice (some ⟨b, 0, none⟩) xs.length cap] w' fun e w'' => e = .returned (.bool true) ∧ Below w'.heap.size w' w'') := fun w' h' => by
    have := polyValid_any (some ⟨b, 0, none⟩) cap xs w' (Or.inr ⟨b, rfl, by have := h'.size; omega, fun i hi => ptAt_below (hc i hi) h' hb⟩) (by omega)
    rw [hok] at this; exact callsIn_wide.2 this
  have HVC : Hid (∀ w', CallsIn Fence.wide 1 Try.prog 66 #[cv c, .int .i64 100] w' fun e w'' => e = .returned (.bool true) ∧ Below w'.heap.size w' w'') := fun w' => by
    have := smallM_any c 100 (by omega) (by omega) w'
    rw [hokc] at this; exact callsIn_wide.2 this
  have HON : Hid (∀ w', Below w.heap.size w w' → CallsIn Fence.wide 1 Try.prog 84 #[.slice (some ⟨b, 0, none⟩) xs.length cap, cv c] w' fun e w'' => e = .returned (.bool false) ∧ Below w'.heap.size w' w'') := fun w' h' => by
    have := callsIn_wide.1 (on_in b cap xs c (okM_lim hokc) (plOk_small hok) hlen w' (by have := h'.size; omega) (fun i hi => ptAt_below (hc i hi) h' hb))
    rw [hno] at this; exact callsIn_wide.2 this
  clear hc hSd hok hokc hno
  refine callsIn_of_wp_marks Try.func40 rfl trivial ?_ rfl
  simp only [Try.ntmps40, List.size_toArray, List.length_cons, List.length_nil, Nat.reduceAdd, Nat.reduceSub, Array.replicate_succ, Array.replicate_zero, List.push_toArray, List.append_toArray, List.nil_append, List.cons_append]
  gi_wp2_with (first
    | (refine ⟨trivial, ?_⟩; gi_at_call 80; refine (HV.out _ (by repeat' (first | (with_reducible exact Below.refl _ _) | (with_reducible assumption) | (with_reducible refine Below.alloc ?_ ?_ _) | (with_reducible refine below_more ?_ ?_ _ _) | (with_reducible refine below_rd ?_ ?_ _ _) | (with_reducible refine Below.drew ?_) | (with_reducible refine Below.setCell ?_ ?_ _) | go_size))).mono ?_; rintro e w' ⟨rfl, hb2⟩; obtain ⟨os1, d1, rfl⟩ := more_of_below hb2; clear hb2)
    | (refine ⟨trivial, ?_⟩; gi_at_call 66; refine (HVC.out _).mono ?_; rintro e w' ⟨rfl, hb2⟩; obtain ⟨os2, d2, rfl⟩ := more_of_below hb2; clear hb2)
    | (refine ⟨trivial, ?_⟩; gi_at_call 84; refine (HON.out _ (by repeat' (first | (with_reducible exact Below.refl _ _) | (with_reducible assumption) | (with_reducible refine Below.alloc ?_ ?_ _) | (with_reducible refine below_more ?_ ?_ _ _) | (with_reducible refine below_rd ?_ ?_ _ _) | (with_reducible refine Below.drew ?_) | (with_reducible refine Below.setCell ?_ ?_ _) | go_size))).mono ?_; rintro e w' ⟨rfl, hb2⟩; obtain ⟨os3, d3, rfl⟩ := more_of_below hb2; clear hb2)
    | (refine ⟨trivial, ?_⟩; gi_at_call 81; refine (callsIn_wide.2 (sides_any _ _ _ _)).mono ?_; rintro e w' ⟨rfl, rfl⟩))
  obtain ⟨B6, hB6⟩ : ∃ B6, w.heap.size + 1 + (os1.size + (os2.size + os3.size)) = B6 := ⟨_, rfl⟩
  obtain ⟨WX, hW0⟩ : ∃ WX, (((more (w.alloc (.cells (row c) 25)) (os1 ++ (os2 ++ os3)) d3).alloc (.cells #[.int .i64 0] 3)).alloc (.cells #[.slice (some ⟨b, 0, none⟩) xs.length cap] 49)) = WX := ⟨_, rfl⟩
  have hsz : WX.heap.size = B6 + 2 := by rw [← hW0, ← hB6]; simp
  have hcl : WX.cell? ⟨B6 + 1, 0, none⟩ = some (.slice (some ⟨b, 0, none⟩) xs.length cap) := by rw [← hW0, ← hB6]; simp [go_sem]
  have hI0 : IntAt WX B6 0 := by rw [← hW0, ← hB6]; refine ⟨?_, ?_⟩ <;> simp [go_sem]
  have hB0 : Below w.heap.size w WX := by rw [← hW0]; repeat' (first | (with_reducible exact Below.refl _ _) | (with_reducible assumption) | (with_reducible refine Below.alloc ?_ ?_ _) | (with_reducible refine below_more ?_ ?_ _ _) | (with_reducible refine below_rd ?_ ?_ _ _) | (with_reducible refine Below.drew ?_) | (with_reducible refine Below.setCell ?_ ?_ _) | go_size)
  have hC0 : PtAt WX w.heap.size 0 c := by
    rw [← hW0]
    exact ptAt_alloc (ptAt_alloc (PtAt.more (PtAt.new w c 25) (by simp) _ _) (by simp; omega) _) (by simp; omega) _
  rw [hB6]
  rw [hW0]
  have hb2 : w.heap.size + 1 ≤ B6 := by omega
  clear hW0 hB6
  refine wpIn_rangeFunc_ownH rfl (by omega) (gf := 116) (lb := #[.pointer (some ⟨B6 + 1, 0, none⟩)]) rfl trivial (enters_of Try.func116 (by kernel_rfl) rfl)
    (sides_stops SdSm (B6 + 1) (w.heap.size + 1) b cap xs (by omega) (by omega) HS.out WX (by omega) (by omega) hcl (fun i hi => ptAt_below (HC.out i hi) hB0 hb))
    (fun h h' => KpS.trans h h') (fun W l o o' hl ho _ _ => KpS.putObj W o' (by omega) (by omega) (Array.getElem?_eq_some_iff.1 ho).1) (Below.refl _ _) (fun _ => rfl)
    (fun pre W => IntAt W B6 (wdS c pre) ∧ KpS (w.heap.size + 1) (B6 + 1) WX W)
    (fun _ _ _ => False)
    (OwnFrom.and (Own.from (IntAt.own B6 (wdS c)) _) (ownFrom_KpS (by omega) (by omega) (by omega) (by omega)))
    (fun _ _ _ _ _ hs _ _ => hs)
    ⟨hI0, KpS.refl _ _ _⟩
    (fun x a' W => ∃ Bx, B6 + 1 < Bx ∧ SideAt W Bx x.1 ∧ a' = { tmps := #[.slice (some ⟨b, 0, none⟩) xs.length cap, cv c, undef, .pointer (some ⟨w.heap.size, 0, none⟩), .int .i64 0, .bool false, .pointer (some ⟨B6, 0, none⟩), .pointer (some ⟨Bx, 0, none⟩), undef, undef, undef, undef, undef, .slice (some ⟨b, 0, none⟩) xs.length cap, .bool true, .bool false, .bool false, .agg (row c), .bool true, .bool false, .bool false, .bool false, .slice (some ⟨b, 0, none⟩) xs.length cap, .agg (row c), .bool false, .bool false, .slice (some ⟨b, 0, none⟩) xs.length cap, .func (.func 116) #[] #[.pointer (some ⟨B6 + 1, 0, none⟩)], .agg (row2 x.1.1 x.1.2), undef, undef, undef, undef, undef, undef, undef, undef, undef, undef, undef, undef, undef, undef, undef, undef, undef, undef, undef, undef, undef, undef, undef, undef, undef, undef, undef, undef, undef, undef, undef, undef, undef, undef, undef, undef, undef, undef, undef, undef, undef, undef, undef, undef, undef, undef, undef, undef, undef], defers := [] })
    (fun x a' _ X Y row hs hg hr => by obtain ⟨Bx, h1, h2, h3⟩ := hs; exact ⟨Bx, h1, h2.own hg hr, h3⟩)
    ?assign ?body ?done ?stop
  case assign =>
    rintro l pre x W K ⟨hS, hK⟩ hKK
    have hsW := hK.1.size
    dsimp only [sideV]
    gi_wp2
    exact hKK _ _ ((KeepsOthers.alloc _ _).from _) ((KpS.refl _ _ W).alloc (by omega) (by omega) _) ⟨hS.below ((Below.refl W.heap.size W).alloc (Nat.le_refl _) _) hS.lt, hK.alloc (by omega) (by omega) _⟩ ⟨W.heap.size, by omega, SideAt.new W x.1 91, rfl⟩
  case body =>
    rintro l pre x a' W hl ⟨r, hr⟩ ⟨hS, hK⟩ ⟨Bx, hBx, hX, rfl⟩ hlt
    have hsW := hK.1.size
    have hBxW := hX.lt
    have HF := Lib.hid hX.fst
    have HG := Lib.hid hX.snd
    have HX := Lib.hid x.2
    have hlw : w.heap.size < W.heap.size := by omega
    have hlw6 : B6 < W.heap.size := by omega
    obtain ⟨r1, r2⟩ := id hS
    have HWD := Lib.hid (wdS_bd (c := c) (l := pre) (by omega))
    have HCW := Lib.hid (ptAt_below hC0 hK.1 (by omega))
    have HL := Lib.hid (show C8.lim 1000 x.1.1 ∧ C8.lim 1000 x.1.2 ∧ C8.lim 1000 c ∧ C8.lim 1000 (C8.sub x.1.2 x.1.1) ∧ C8.lim 1000 (C8.sub c x.1.1) from
      ⟨C8.lim_mono HX.out.1 (by omega), C8.lim_mono HX.out.2 (by omega), C8.lim_mono HCL.out (by omega), C8.lim_mono (lim_sub HX.out.2 HX.out.1) (by omega), C8.lim_mono (lim_sub HCL.out HX.out.1) (by omega)⟩)
    have HI1 := Lib.hid (show C8.lim 1000000000 (C8.sub x.1.1 c) from C8.lim_mono (lim_sub HX.out.1 HCL.out) (by omega))
    have HI2 := Lib.hid (show C8.lim 1000000000 (C8.sub x.1.2 c) from C8.lim_mono (lim_sub HX.out.2 HCL.out) (by omega))
    have HO1 := Lib.hid (show okS (C8.sub x.1.1 c).im.a (C8.sub x.1.1 c).im.b (C8.sub x.1.1 c).im.c (C8.sub x.1.1 c).im.d = true from im_ok (lim_sub HX.out.1 HCL.out))
    have HO2 := Lib.hid (show okS (C8.sub x.1.2 c).im.a (C8.sub x.1.2 c).im.b (C8.sub x.1.2 c).im.c (C8.sub x.1.2 c).im.d = true from im_ok (lim_sub HX.out.2 HCL.out))
    have HO3 := Lib.hid (show okS (crs (C8.sub x.1.2 x.1.1) (C8.sub c x.1.1)).a (crs (C8.sub x.1.2 x.1.1) (C8.sub c x.1.1)).b (crs (C8.sub x.1.2 x.1.1) (C8.sub c x.1.1)).c (crs (C8.sub x.1.2 x.1.1) (C8.sub c x.1.1)).d = true from crs_ok (lim_sub HX.out.2 HX.out.1) (lim_sub HCL.out HX.out.1))
    obtain ⟨f, hf⟩ : ∃ f, sgn (C8.sub x.1.1 c).im = f := ⟨_, rfl⟩
    obtain ⟨t, ht⟩ : ∃ t, sgn (C8.sub x.1.2 c).im = t := ⟨_, rfl⟩
    obtain ⟨s, hs⟩ : ∃ s, sgn (crs (C8.sub x.1.1 c) (C8.sub x.1.2 c)) = s := ⟨_, rfl⟩
    have HS1 := Lib.hid (show sgS (C8.sub x.1.1 c).im.a (C8.sub x.1.1 c).im.b (C8.sub x.1.1 c).im.c (C8.sub x.1.1 c).im.d = f from hf)
    have HS2 := Lib.hid (show sgS (C8.sub x.1.2 c).im.a (C8.sub x.1.2 c).im.b (C8.sub x.1.2 c).im.c (C8.sub x.1.2 c).im.d = t from ht)
    have HS3 := Lib.hid (show sgS (crs (C8.sub x.1.2 x.1.1) (C8.sub c x.1.1)).a (crs (C8.sub x.1.2 x.1.1) (C8.sub c x.1.1)).b (crs (C8.sub x.1.2 x.1.1) (C8.sub c x.1.1)).c (crs (C8.sub x.1.2 x.1.1) (C8.sub c x.1.1)).d = s by rw [← hs, ← crs_side x.1.1 x.1.2 c]; rfl)
    have HU1 := Lib.hid hf
    have HU2 := Lib.hid ht
    have HU3 := Lib.hid hs
    clear hf ht hs
    gi_wp2
    refine region_heldIn (lets_round l 0) (S := fun w' => PtAt w' Bx 0 x.1.1 ∧ PtAt w' Bx 8 x.1.2) (by kernel_rfl) (by kernel_rfl) (by rintro ⟨_, _, h⟩; exact h) ⟨ptAt_drew HF.out, ptAt_drew HG.out⟩ (fun hHeld => ?_)
    refine wpAnyH_take (i := 0) (oi := ⟨some 29, .indexAddr 91 (.tmp 7) (.const (.int .i64 0)), _, _, _, _⟩) (v := ?_) rfl (by kernel_rfl) (by kernel_rfl) (by kernel_rfl) (fun _ _ _ h => h) (Or.inl ⟨by rfl, ?_⟩) (by assumption) ?_
    rotate_left
    focus
      intro w2 hSw
      (try dsimp only at hSw)
      go_simp
      all_goals with_reducible rfl
    try simp only [Act.put, List.setIfInBounds_toArray, List.set_cons_zero, List.set_cons_succ]
    refine wpAnyH_take (i := 1) (oi := ⟨some 30, .load 25 (.tmp 29), _, _, _, _⟩) (v := ?_) rfl (by kernel_rfl) (by kernel_rfl) (by kernel_rfl) (fun _ _ _ h => h) (Or.inl ⟨by rfl, ?_⟩) (by assumption) ?_
    rotate_left
    focus
      intro w2 hSw
      refine run_load_pt w2 _ _ (t := 29) ?_ Bx 0 x.1.1 hSw.1 ?_ <;> rfl
    try simp only [Act.put, List.setIfInBounds_toArray, List.set_cons_zero, List.set_cons_succ]
    refine wpAnyH_take (i := 2) (oi := ⟨some 31, .indexAddr 91 (.tmp 7) (.const (.int .i64 1)), _, _, _, _⟩) (v := ?_) rfl (by kernel_rfl) (by kernel_rfl) (by kernel_rfl) (fun _ _ _ h => h) (Or.inl ⟨by rfl, ?_⟩) (by assumption) ?_
    rotate_left
    focus
      intro w2 hSw
      (try dsimp only at hSw)
      go_simp
      all_goals with_reducible rfl
    try simp only [Act.put, List.setIfInBounds_toArray, List.set_cons_zero, List.set_cons_succ]
    refine wpAnyH_take (i := 3) (oi := ⟨some 32, .load 25 (.tmp 31), _, _, _, _⟩) (v := ?_) rfl (by kernel_rfl) (by kernel_rfl) (by kernel_rfl) (fun _ _ _ h => h) (Or.inl ⟨by rfl, ?_⟩) (by assumption) ?_
    rotate_left
    focus
      intro w2 hSw
      refine run_load_pt w2 _ _ (t := 31) ?_ Bx 8 x.1.2 hSw.2 ?_ <;> rfl
    try simp only [Act.put, List.setIfInBounds_toArray, List.set_cons_zero, List.set_cons_succ]
    refine wpAnyH_ready (rs := [4, 5]) (by kernel_rfl) (by simp) ?_
    refine AllReadyH.cons rfl ?_ (AllReadyH.cons rfl ?_ AllReadyH.nil)
    · intro K hK
      rw [if_pos (by rfl)]
      go_simp
      try go_wp2_with fail
      refine hK.out _ _ ?_ (fun hHeld => ?_)
      · exact ⟨ptAt_alloc hHeld.1 (by first | exact hBxW | (simp; omega)) _, ptAt_alloc hHeld.2 (by first | exact hBxW | (simp; omega)) _⟩
      clear hK K
      try simp only [Act.put, List.setIfInBounds_toArray, List.set_cons_zero, List.set_cons_succ]
      refine wpAnyH_ready (rs := [5]) (by kernel_rfl) (by simp) ?_
      refine AllReadyH.cons rfl ?_ AllReadyH.nil
      intro K hK
      rw [if_pos (by rfl)]
      go_simp
      try go_wp2_with fail
      refine hK.out _ _ ?_ (fun hHeld => ?_)
      · exact ⟨ptAt_alloc hHeld.1 (by first | exact hBxW | (simp; omega)) _, ptAt_alloc hHeld.2 (by first | exact hBxW | (simp; omega)) _⟩
      clear hK K
      try simp only [Act.put, List.setIfInBounds_toArray, List.set_cons_zero, List.set_cons_succ]
      refine wpAnyH_ready (rs := [6]) (by kernel_rfl) (by simp) ?_
      refine AllReadyH.cons rfl ?_ AllReadyH.nil
      intro K hK
      rw [if_pos (by rfl)]
      go_simp
      try go_wp2_with fail
      refine hK.out _ _ ?_ (fun hHeld => ?_)
      · exact ⟨ptAt_alloc (ptAt_alloc (ptAt_drew HF.out) hBxW _) (by simp; omega) _, ptAt_alloc (ptAt_alloc (ptAt_drew HG.out) hBxW _) (by simp; omega) _⟩
      clear hK K
      try simp only [Act.put, List.setIfInBounds_toArray, List.set_cons_zero, List.set_cons_succ]
      refine wpAnyH_ready (rs := [7]) (by kernel_rfl) (by simp) ?_
      refine AllReadyH.cons rfl ?_ AllReadyH.nil
      intro K hK
      rw [if_pos (by rfl)]
      go_simp
      try go_wp2_with fail
      refine hK.out _ _ ?_ (fun hHeld => ?_)
      · exact ⟨ptAt_alloc (ptAt_alloc (ptAt_drew HF.out) hBxW _) (by simp; omega) _, ptAt_alloc (ptAt_alloc (ptAt_drew HG.out) hBxW _) (by simp; omega) _⟩
      clear hK K
      try simp only [Act.put, List.setIfInBounds_toArray, List.set_cons_zero, List.set_cons_succ]
      refine wpAnyH_done (by kernel_rfl) ?_ _
      have HPP := Lib.hid (show PtAt ((W.alloc (.cells (row x.1.1) 25)).alloc (.cells (row x.1.2) 25)) W.heap.size 0 x.1.1 from (ptAt_alloc (PtAt.new W x.1.1 25) (by simp) _))
      have HQQ := Lib.hid (show PtAt ((W.alloc (.cells (row x.1.1) 25)).alloc (.cells (row x.1.2) 25)) (W.heap.size + 1) 0 x.1.2 from (by simpa using PtAt.new (W.alloc (.cells (row x.1.1) 25)) x.1.2 25))
      have HCC := Lib.hid (show PtAt ((W.alloc (.cells (row x.1.1) 25)).alloc (.cells (row x.1.2) 25)) w.heap.size 0 c from ptAt_alloc (ptAt_alloc HCW.out (by omega) _) (by simp; omega) _)
      have lp : W.heap.size < ((W.alloc (.cells (row x.1.1) 25)).alloc (.cells (row x.1.2) 25)).heap.size := by simp; try omega
      have lq : (W.heap.size + 1) < ((W.alloc (.cells (row x.1.1) 25)).alloc (.cells (row x.1.2) 25)).heap.size := by simp; try omega
      have lc : w.heap.size < ((W.alloc (.cells (row x.1.1) 25)).alloc (.cells (row x.1.2) 25)).heap.size := by simp; omega
      clear hHeld
      gi_wp2
      refine region_fixedIn (lets_round l 0) (fun w' => ∃ os' d', w' = more ((W.alloc (.cells (row x.1.1) 25)).alloc (.cells (row x.1.2) 25)) os' d') (by kernel_rfl) 12 [cv x.1.1, cv c, cv (C8.sub x.1.1 c), sS (C8.sub x.1.1 c).im, .int .i64 f, cv x.1.2, cv c, cv (C8.sub x.1.2 c), sS (C8.sub x.1.2 c).im, .int .i64 t, .int .i64 f, .int .i64 t] (by simp) (by kernel_rfl) (by kernel_rfl) ⟨#[], _, (by first | exact drew_self _ | exact drew2_self _)⟩ ?_ ?_
      · simp only [List.take_succ_cons, List.take_zero, puts, Act.put, List.setIfInBounds_toArray, List.set_cons_zero, List.set_cons_succ]
        refine ⟨?_, ?_, ?_, ?_, ?_, ?_, ?_, ?_, ?_, ?_, ?_, ?_, trivial⟩
        · refine Or.inl ⟨by kernel_rfl, ?_⟩
          rintro w' ⟨os', d', rfl⟩ KK hKK
          refine wp_load_mid 25 (.tmp 8) rfl W.heap.size 0 rfl (row x.1.1).toList _ (HPP.out.more lp os' d') Try.underlying25 rfl infoC8 ?_
          simp only [Act.put, Array.toArray_toList, List.setIfInBounds_toArray, List.set_cons_zero, List.set_cons_succ]
          with_reducible exact hKK.out _ ⟨_, _, rfl⟩
        · refine Or.inl ⟨by kernel_rfl, ?_⟩
          rintro w' ⟨os', d', rfl⟩ KK hKK
          refine wp_load_mid 25 (.tmp 3) rfl w.heap.size 0 rfl (row c).toList _ (HCC.out.more lc os' d') Try.underlying25 rfl infoC8 ?_
          simp only [Act.put, Array.toArray_toList, List.setIfInBounds_toArray, List.set_cons_zero, List.set_cons_succ]
          with_reducible exact hKK.out _ ⟨_, _, rfl⟩
        · refine Or.inl ⟨by kernel_rfl, ?_⟩
          rintro w' ⟨os', d', rfl⟩ KK hKK
          go_simp
          go_at_call 87
          refine (cminus_any _ _ HL.out.1 HL.out.2.2.1 _).mono ?_
          rintro e w' ⟨rfl, hb⟩; obtain ⟨os, d, rfl⟩ := more_of_below hb; clear hb
          go_simp
          with_reducible exact hKK.out _ ⟨_, _, rfl⟩
        · refine Or.inl ⟨by kernel_rfl, ?_⟩
          rintro w' ⟨os', d', rfl⟩ KK hKK
          go_simp
          go_at_call 55
          refine (cim_any _ HI1.out _).mono ?_
          rintro e w' ⟨rfl, hb⟩; obtain ⟨os, d, rfl⟩ := more_of_below hb; clear hb
          go_simp
          with_reducible exact hKK.out _ ⟨_, _, rfl⟩
        · refine Or.inl ⟨by kernel_rfl, ?_⟩
          rintro w' ⟨os', d', rfl⟩ KK hKK
          go_simp
          go_at_call 77
          refine (sign_any _ _ _ _ _ HO1.out).mono ?_
          rw [HS1.out]
          rintro e w' ⟨rfl, hb⟩; obtain ⟨os, d, rfl⟩ := more_of_below hb; clear hb
          go_simp
          with_reducible exact hKK.out _ ⟨_, _, rfl⟩
        · refine Or.inl ⟨by kernel_rfl, ?_⟩
          rintro w' ⟨os', d', rfl⟩ KK hKK
          refine wp_load_mid 25 (.tmp 9) rfl (W.heap.size + 1) 0 rfl (row x.1.2).toList _ (HQQ.out.more lq os' d') Try.underlying25 rfl infoC8 ?_
          simp only [Act.put, Array.toArray_toList, List.setIfInBounds_toArray, List.set_cons_zero, List.set_cons_succ]
          with_reducible exact hKK.out _ ⟨_, _, rfl⟩
        · refine Or.inl ⟨by kernel_rfl, ?_⟩
          rintro w' ⟨os', d', rfl⟩ KK hKK
          refine wp_load_mid 25 (.tmp 3) rfl w.heap.size 0 rfl (row c).toList _ (HCC.out.more lc os' d') Try.underlying25 rfl infoC8 ?_
          simp only [Act.put, Array.toArray_toList, List.setIfInBounds_toArray, List.set_cons_zero, List.set_cons_succ]
          with_reducible exact hKK.out _ ⟨_, _, rfl⟩
        · refine Or.inl ⟨by kernel_rfl, ?_⟩
          rintro w' ⟨os', d', rfl⟩ KK hKK
          go_simp
          go_at_call 87
          refine (cminus_any _ _ HL.out.2.1 HL.out.2.2.1 _).mono ?_
          rintro e w' ⟨rfl, hb⟩; obtain ⟨os, d, rfl⟩ := more_of_below hb; clear hb
          go_simp
          with_reducible exact hKK.out _ ⟨_, _, rfl⟩
        · refine Or.inl ⟨by kernel_rfl, ?_⟩
          rintro w' ⟨os', d', rfl⟩ KK hKK
          go_simp
          go_at_call 55
          refine (cim_any _ HI2.out _).mono ?_
          rintro e w' ⟨rfl, hb⟩; obtain ⟨os, d, rfl⟩ := more_of_below hb; clear hb
          go_simp
          with_reducible exact hKK.out _ ⟨_, _, rfl⟩
        · refine Or.inl ⟨by kernel_rfl, ?_⟩
          rintro w' ⟨os', d', rfl⟩ KK hKK
          go_simp
          go_at_call 77
          refine (sign_any _ _ _ _ _ HO2.out).mono ?_
          rw [HS2.out]
          rintro e w' ⟨rfl, hb⟩; obtain ⟨os, d, rfl⟩ := more_of_below hb; clear hb
          go_simp
          with_reducible exact hKK.out _ ⟨_, _, rfl⟩
        · refine Or.inl ⟨by kernel_rfl, ?_⟩
          rintro w' ⟨os', d', rfl⟩ KK hKK
          go_simp
          try go_wp2_with fail
          with_reducible exact hKK.out _ ⟨_, _, rfl⟩
        · refine Or.inl ⟨by kernel_rfl, ?_⟩
          rintro w' ⟨os', d', rfl⟩ KK hKK
          go_simp
          try go_wp2_with fail
          with_reducible exact hKK.out _ ⟨_, _, rfl⟩
      rintro w' ⟨os', d', rfl⟩
      simp only [List.take_succ_cons, List.take_zero, puts, Act.put, List.setIfInBounds_toArray, List.set_cons_zero, List.set_cons_succ, List.drop_succ_cons, List.drop_zero]
      gi_wp2
      refine region_fixedIn (lets_round l 0) (fun w' => ∃ os' d', w' = more ((W.alloc (.cells (row x.1.1) 25)).alloc (.cells (row x.1.2) 25)) os' d') (by kernel_rfl) 9 [cv x.1.2, cv x.1.1, cv (C8.sub x.1.2 x.1.1), cv c, cv x.1.1, cv (C8.sub c x.1.1), sS (crs (C8.sub x.1.2 x.1.1) (C8.sub c x.1.1)), .int .i64 s, .int .i64 s] (by simp) (by kernel_rfl) (by kernel_rfl) ⟨_, _, rfl⟩ ?_ ?_
      · simp only [List.take_succ_cons, List.take_zero, puts, Act.put, List.setIfInBounds_toArray, List.set_cons_zero, List.set_cons_succ]
        refine ⟨?_, ?_, ?_, ?_, ?_, ?_, ?_, ?_, ?_, trivial⟩
        · refine Or.inl ⟨by kernel_rfl, ?_⟩
          rintro w' ⟨os', d', rfl⟩ KK hKK
          refine wp_load_mid 25 (.tmp 9) rfl (W.heap.size + 1) 0 rfl (row x.1.2).toList _ (HQQ.out.more lq os' d') Try.underlying25 rfl infoC8 ?_
          simp only [Act.put, Array.toArray_toList, List.setIfInBounds_toArray, List.set_cons_zero, List.set_cons_succ]
          with_reducible exact hKK.out _ ⟨_, _, rfl⟩
        · refine Or.inl ⟨by kernel_rfl, ?_⟩
          rintro w' ⟨os', d', rfl⟩ KK hKK
          refine wp_load_mid 25 (.tmp 8) rfl W.heap.size 0 rfl (row x.1.1).toList _ (HPP.out.more lp os' d') Try.underlying25 rfl infoC8 ?_
          simp only [Act.put, Array.toArray_toList, List.setIfInBounds_toArray, List.set_cons_zero, List.set_cons_succ]
          with_reducible exact hKK.out _ ⟨_, _, rfl⟩
        · refine Or.inl ⟨by kernel_rfl, ?_⟩
          rintro w' ⟨os', d', rfl⟩ KK hKK
          go_simp
          go_at_call 87
          refine (cminus_any _ _ HL.out.2.1 HL.out.1 _).mono ?_
          rintro e w' ⟨rfl, hb⟩; obtain ⟨os, d, rfl⟩ := more_of_below hb; clear hb
          go_simp
          with_reducible exact hKK.out _ ⟨_, _, rfl⟩
        · refine Or.inl ⟨by kernel_rfl, ?_⟩
          rintro w' ⟨os', d', rfl⟩ KK hKK
          refine wp_load_mid 25 (.tmp 3) rfl w.heap.size 0 rfl (row c).toList _ (HCC.out.more lc os' d') Try.underlying25 rfl infoC8 ?_
          simp only [Act.put, Array.toArray_toList, List.setIfInBounds_toArray, List.set_cons_zero, List.set_cons_succ]
          with_reducible exact hKK.out _ ⟨_, _, rfl⟩
        · refine Or.inl ⟨by kernel_rfl, ?_⟩
          rintro w' ⟨os', d', rfl⟩ KK hKK
          refine wp_load_mid 25 (.tmp 8) rfl W.heap.size 0 rfl (row x.1.1).toList _ (HPP.out.more lp os' d') Try.underlying25 rfl infoC8 ?_
          simp only [Act.put, Array.toArray_toList, List.setIfInBounds_toArray, List.set_cons_zero, List.set_cons_succ]
          with_reducible exact hKK.out _ ⟨_, _, rfl⟩
        · refine Or.inl ⟨by kernel_rfl, ?_⟩
          rintro w' ⟨os', d', rfl⟩ KK hKK
          go_simp
          go_at_call 87
          refine (cminus_any _ _ HL.out.2.2.1 HL.out.1 _).mono ?_
          rintro e w' ⟨rfl, hb⟩; obtain ⟨os, d, rfl⟩ := more_of_below hb; clear hb
          go_simp
          with_reducible exact hKK.out _ ⟨_, _, rfl⟩
        · refine Or.inl ⟨by kernel_rfl, ?_⟩
          rintro w' ⟨os', d', rfl⟩ KK hKK
          go_simp
          go_at_call 67
          refine (cross_any _ _ HL.out.2.2.2.1 HL.out.2.2.2.2 _).mono ?_
          rintro e w' ⟨rfl, hb⟩; obtain ⟨os, d, rfl⟩ := more_of_below hb; clear hb
          go_simp
          with_reducible exact hKK.out _ ⟨_, _, rfl⟩
        · refine Or.inl ⟨by kernel_rfl, ?_⟩
          rintro w' ⟨os', d', rfl⟩ KK hKK
          go_simp
          go_at_call 77
          refine (sign_any _ _ _ _ _ HO3.out).mono ?_
          rw [HS3.out]
          rintro e w' ⟨rfl, hb⟩; obtain ⟨os, d, rfl⟩ := more_of_below hb; clear hb
          go_simp
          with_reducible exact hKK.out _ ⟨_, _, rfl⟩
        · refine Or.inl ⟨by kernel_rfl, ?_⟩
          rintro w' ⟨os', d', rfl⟩ KK hKK
          go_simp
          try go_wp2_with fail
          with_reducible exact hKK.out _ ⟨_, _, rfl⟩
      rintro w' ⟨os', d', rfl⟩
      simp only [List.take_succ_cons, List.take_zero, puts, Act.put, List.setIfInBounds_toArray, List.set_cons_zero, List.set_cons_succ, List.drop_succ_cons, List.drop_zero]
      have hwd := HWD.out
      by_cases h1 : f ≤ 0
      · by_cases h2 : 0 < t
        · by_cases h3 : 0 < s
          · have HD := Lib.hid (show dlt c x.1 = 1 by unfold dlt; rw [HU1.out, HU2.out, HU3.out]; first | (rw [if_pos (by omega)]) | (rw [if_neg (by omega), if_pos (by omega)]) | (rw [if_neg (by omega), if_neg (by omega)]))
            gi_wp2
            have hKS : KpS (w.heap.size + 1) (B6 + 1) W (more (((W.setCell ⟨B6, 0, none⟩ (.int .i64 (wdS c pre + 1))).alloc (.cells (row x.1.1) 25)).alloc (.cells (row x.1.2) 25)) os' d') := ((((KpS.refl (w.heap.size + 1) (B6 + 1) W).setCell hb2 0 (Value.int .i64 (wdS c pre + 1))).alloc (by (first | omega | (simp; omega) | (simp; done))) (by (first | omega | (simp; omega) | (simp; done))) _).alloc (by (first | omega | (simp; omega) | (simp; done))) (by (first | omega | (simp; omega) | (simp; done))) _).more (by (first | omega | (simp; omega) | (simp; done))) (by (first | omega | (simp; omega) | (simp; done))) os' d'
            refine ⟨((((KeepsOthers.setCell _ _ _).trans (KeepsOthers.alloc _ _)).trans (KeepsOthers.alloc _ _)).trans (keeps_more _ _ _)).from _, hKS, ?_, hK.trans hKS⟩
            rw [wdS_snoc, HD.out]
            try rw [show wdS c pre + -1 = wdS c pre - 1 by omega]
            exact (hS.store _).below (n := B6 + 1) (by repeat' (first | (with_reducible exact Below.refl _ _) | (with_reducible assumption) | (with_reducible refine Below.alloc ?_ ?_ _) | (with_reducible refine below_more ?_ ?_ _ _) | (with_reducible refine below_rd ?_ ?_ _ _) | (with_reducible refine Below.drew ?_) | (with_reducible refine Below.setCell ?_ ?_ _) | go_size)) (by omega)
          · have HD := Lib.hid (show dlt c x.1 = 0 by unfold dlt; rw [HU1.out, HU2.out, HU3.out]; first | (rw [if_pos (by omega)]) | (rw [if_neg (by omega), if_pos (by omega)]) | (rw [if_neg (by omega), if_neg (by omega)]))
            gi_wp2
            have hKS : KpS (w.heap.size + 1) (B6 + 1) W (more ((W.alloc (.cells (row x.1.1) 25)).alloc (.cells (row x.1.2) 25)) os' d') := ((((KpS.refl (w.heap.size + 1) (B6 + 1) W)).alloc (by (first | omega | (simp; omega) | (simp; done))) (by (first | omega | (simp; omega) | (simp; done))) _).alloc (by (first | omega | (simp; omega) | (simp; done))) (by (first | omega | (simp; omega) | (simp; done))) _).more (by (first | omega | (simp; omega) | (simp; done))) (by (first | omega | (simp; omega) | (simp; done))) os' d'
            refine ⟨(((KeepsOthers.alloc _ _).trans (KeepsOthers.alloc _ _)).trans (keeps_more _ _ _)).from _, hKS, ?_, hK.trans hKS⟩
            rw [wdS_snoc, HD.out, Int.add_zero]
            exact hS.below (n := B6 + 1) (by repeat' (first | (with_reducible exact Below.refl _ _) | (with_reducible assumption) | (with_reducible refine Below.alloc ?_ ?_ _) | (with_reducible refine below_more ?_ ?_ _ _) | (with_reducible refine below_rd ?_ ?_ _ _) | (with_reducible refine Below.drew ?_) | (with_reducible refine Below.setCell ?_ ?_ _) | go_size)) (by omega)
        · have HD := Lib.hid (show dlt c x.1 = 0 by unfold dlt; rw [HU1.out, HU2.out, HU3.out]; first | (rw [if_pos (by omega)]) | (rw [if_neg (by omega), if_pos (by omega)]) | (rw [if_neg (by omega), if_neg (by omega)]))
          gi_wp2
          have hKS : KpS (w.heap.size + 1) (B6 + 1) W (more ((W.alloc (.cells (row x.1.1) 25)).alloc (.cells (row x.1.2) 25)) os' d') := ((((KpS.refl (w.heap.size + 1) (B6 + 1) W)).alloc (by (first | omega | (simp; omega) | (simp; done))) (by (first | omega | (simp; omega) | (simp; done))) _).alloc (by (first | omega | (simp; omega) | (simp; done))) (by (first | omega | (simp; omega) | (simp; done))) _).more (by (first | omega | (simp; omega) | (simp; done))) (by (first | omega | (simp; omega) | (simp; done))) os' d'
          refine ⟨(((KeepsOthers.alloc _ _).trans (KeepsOthers.alloc _ _)).trans (keeps_more _ _ _)).from _, hKS, ?_, hK.trans hKS⟩
          rw [wdS_snoc, HD.out, Int.add_zero]
          exact hS.below (n := B6 + 1) (by repeat' (first | (with_reducible exact Below.refl _ _) | (with_reducible assumption) | (with_reducible refine Below.alloc ?_ ?_ _) | (with_reducible refine below_more ?_ ?_ _ _) | (with_reducible refine below_rd ?_ ?_ _ _) | (with_reducible refine Below.drew ?_) | (with_reducible refine Below.setCell ?_ ?_ _) | go_size)) (by omega)
      · by_cases h2 : 0 < t
        · have HD := Lib.hid (show dlt c x.1 = 0 by unfold dlt; rw [HU1.out, HU2.out, HU3.out]; first | (rw [if_pos (by omega)]) | (rw [if_neg (by omega), if_pos (by omega)]) | (rw [if_neg (by omega), if_neg (by omega)]))
          gi_wp2
          have hKS : KpS (w.heap.size + 1) (B6 + 1) W (more ((W.alloc (.cells (row x.1.1) 25)).alloc (.cells (row x.1.2) 25)) os' d') := ((((KpS.refl (w.heap.size + 1) (B6 + 1) W)).alloc (by (first | omega | (simp; omega) | (simp; done))) (by (first | omega | (simp; omega) | (simp; done))) _).alloc (by (first | omega | (simp; omega) | (simp; done))) (by (first | omega | (simp; omega) | (simp; done))) _).more (by (first | omega | (simp; omega) | (simp; done))) (by (first | omega | (simp; omega) | (simp; done))) os' d'
          refine ⟨(((KeepsOthers.alloc _ _).trans (KeepsOthers.alloc _ _)).trans (keeps_more _ _ _)).from _, hKS, ?_, hK.trans hKS⟩
          rw [wdS_snoc, HD.out, Int.add_zero]
          exact hS.below (n := B6 + 1) (by repeat' (first | (with_reducible exact Below.refl _ _) | (with_reducible assumption) | (with_reducible refine Below.alloc ?_ ?_ _) | (with_reducible refine below_more ?_ ?_ _ _) | (with_reducible refine below_rd ?_ ?_ _ _) | (with_reducible refine Below.drew ?_) | (with_reducible refine Below.setCell ?_ ?_ _) | go_size)) (by omega)
        · by_cases h3 : s < 0
          · have HD := Lib.hid (show dlt c x.1 = (-1) by unfold dlt; rw [HU1.out, HU2.out, HU3.out]; first | (rw [if_pos (by omega)]) | (rw [if_neg (by omega), if_pos (by omega)]) | (rw [if_neg (by omega), if_neg (by omega)]))
            gi_wp2
            have hKS : KpS (w.heap.size + 1) (B6 + 1) W (more (((W.setCell ⟨B6, 0, none⟩ (.int .i64 (wdS c pre - 1))).alloc (.cells (row x.1.1) 25)).alloc (.cells (row x.1.2) 25)) os' d') := ((((KpS.refl (w.heap.size + 1) (B6 + 1) W).setCell hb2 0 (Value.int .i64 (wdS c pre - 1))).alloc (by (first | omega | (simp; omega) | (simp; done))) (by (first | omega | (simp; omega) | (simp; done))) _).alloc (by (first | omega | (simp; omega) | (simp; done))) (by (first | omega | (simp; omega) | (simp; done))) _).more (by (first | omega | (simp; omega) | (simp; done))) (by (first | omega | (simp; omega) | (simp; done))) os' d'
            refine ⟨((((KeepsOthers.setCell _ _ _).trans (KeepsOthers.alloc _ _)).trans (KeepsOthers.alloc _ _)).trans (keeps_more _ _ _)).from _, hKS, ?_, hK.trans hKS⟩
            rw [wdS_snoc, HD.out]
            try rw [show wdS c pre + -1 = wdS c pre - 1 by omega]
            exact (hS.store _).below (n := B6 + 1) (by repeat' (first | (with_reducible exact Below.refl _ _) | (with_reducible assumption) | (with_reducible refine Below.alloc ?_ ?_ _) | (with_reducible refine below_more ?_ ?_ _ _) | (with_reducible refine below_rd ?_ ?_ _ _) | (with_reducible refine Below.drew ?_) | (with_reducible refine Below.setCell ?_ ?_ _) | go_size)) (by omega)
          · have HD := Lib.hid (show dlt c x.1 = 0 by unfold dlt; rw [HU1.out, HU2.out, HU3.out]; first | (rw [if_pos (by omega)]) | (rw [if_neg (by omega), if_pos (by omega)]) | (rw [if_neg (by omega), if_neg (by omega)]))
            gi_wp2
            have hKS : KpS (w.heap.size + 1) (B6 + 1) W (more ((W.alloc (.cells (row x.1.1) 25)).alloc (.cells (row x.1.2) 25)) os' d') := ((((KpS.refl (w.heap.size + 1) (B6 + 1) W)).alloc (by (first | omega | (simp; omega) | (simp; done))) (by (first | omega | (simp; omega) | (simp; done))) _).alloc (by (first | omega | (simp; omega) | (simp; done))) (by (first | omega | (simp; omega) | (simp; done))) _).more (by (first | omega | (simp; omega) | (simp; done))) (by (first | omega | (simp; omega) | (simp; done))) os' d'
            refine ⟨(((KeepsOthers.alloc _ _).trans (KeepsOthers.alloc _ _)).trans (keeps_more _ _ _)).from _, hKS, ?_, hK.trans hKS⟩
            rw [wdS_snoc, HD.out, Int.add_zero]
            exact hS.below (n := B6 + 1) (by repeat' (first | (with_reducible exact Below.refl _ _) | (with_reducible assumption) | (with_reducible refine Below.alloc ?_ ?_ _) | (with_reducible refine below_more ?_ ?_ _ _) | (with_reducible refine below_rd ?_ ?_ _ _) | (with_reducible refine Below.drew ?_) | (with_reducible refine Below.setCell ?_ ?_ _) | go_size)) (by omega)
    · intro K hK
      rw [if_pos (by rfl)]
      go_simp
      try go_wp2_with fail
      refine hK.out _ _ ?_ (fun hHeld => ?_)
      · exact ⟨ptAt_alloc hHeld.1 (by first | exact hBxW | (simp; omega)) _, ptAt_alloc hHeld.2 (by first | exact hBxW | (simp; omega)) _⟩
      clear hK K
      try simp only [Act.put, List.setIfInBounds_toArray, List.set_cons_zero, List.set_cons_succ]
      refine wpAnyH_ready (rs := [4]) (by kernel_rfl) (by simp) ?_
      refine AllReadyH.cons rfl ?_ AllReadyH.nil
      intro K hK
      rw [if_pos (by rfl)]
      go_simp
      try go_wp2_with fail
      refine hK.out _ _ ?_ (fun hHeld => ?_)
      · exact ⟨ptAt_alloc hHeld.1 (by first | exact hBxW | (simp; omega)) _, ptAt_alloc hHeld.2 (by first | exact hBxW | (simp; omega)) _⟩
      clear hK K
      try simp only [Act.put, List.setIfInBounds_toArray, List.set_cons_zero, List.set_cons_succ]
      refine wpAnyH_ready (rs := [6]) (by kernel_rfl) (by simp) ?_
      refine AllReadyH.cons rfl ?_ AllReadyH.nil
      intro K hK
      rw [if_pos (by rfl)]
      go_simp
      try go_wp2_with fail
      refine hK.out _ _ ?_ (fun hHeld => ?_)
      · exact ⟨ptAt_alloc (ptAt_alloc (ptAt_drew HF.out) hBxW _) (by simp; omega) _, ptAt_alloc (ptAt_alloc (ptAt_drew HG.out) hBxW _) (by simp; omega) _⟩
      clear hK K
      try simp only [Act.put, List.setIfInBounds_toArray, List.set_cons_zero, List.set_cons_succ]
      refine wpAnyH_ready (rs := [7]) (by kernel_rfl) (by simp) ?_
      refine AllReadyH.cons rfl ?_ AllReadyH.nil
      intro K hK
      rw [if_pos (by rfl)]
      go_simp
      try go_wp2_with fail
      refine hK.out _ _ ?_ (fun hHeld => ?_)
      · exact ⟨ptAt_alloc (ptAt_alloc (ptAt_drew HF.out) hBxW _) (by simp; omega) _, ptAt_alloc (ptAt_alloc (ptAt_drew HG.out) hBxW _) (by simp; omega) _⟩
      clear hK K
      try simp only [Act.put, List.setIfInBounds_toArray, List.set_cons_zero, List.set_cons_succ]
      refine wpAnyH_done (by kernel_rfl) ?_ _
      have HPP := Lib.hid (show PtAt ((W.alloc (.cells (row x.1.2) 25)).alloc (.cells (row x.1.1) 25)) (W.heap.size + 1) 0 x.1.1 from (by simpa using PtAt.new (W.alloc (.cells (row x.1.2) 25)) x.1.1 25))
      have HQQ := Lib.hid (show PtAt ((W.alloc (.cells (row x.1.2) 25)).alloc (.cells (row x.1.1) 25)) W.heap.size 0 x.1.2 from (ptAt_alloc (PtAt.new W x.1.2 25) (by simp) _))
      have HCC := Lib.hid (show PtAt ((W.alloc (.cells (row x.1.2) 25)).alloc (.cells (row x.1.1) 25)) w.heap.size 0 c from ptAt_alloc (ptAt_alloc HCW.out (by omega) _) (by simp; omega) _)
      have lp : (W.heap.size + 1) < ((W.alloc (.cells (row x.1.2) 25)).alloc (.cells (row x.1.1) 25)).heap.size := by simp; try omega
      have lq : W.heap.size < ((W.alloc (.cells (row x.1.2) 25)).alloc (.cells (row x.1.1) 25)).heap.size := by simp; try omega
      have lc : w.heap.size < ((W.alloc (.cells (row x.1.2) 25)).alloc (.cells (row x.1.1) 25)).heap.size := by simp; omega
      clear hHeld
      gi_wp2
      refine region_fixedIn (lets_round l 0) (fun w' => ∃ os' d', w' = more ((W.alloc (.cells (row x.1.2) 25)).alloc (.cells (row x.1.1) 25)) os' d') (by kernel_rfl) 12 [cv x.1.1, cv c, cv (C8.sub x.1.1 c), sS (C8.sub x.1.1 c).im, .int .i64 f, cv x.1.2, cv c, cv (C8.sub x.1.2 c), sS (C8.sub x.1.2 c).im, .int .i64 t, .int .i64 f, .int .i64 t] (by simp) (by kernel_rfl) (by kernel_rfl) ⟨#[], _, (by first | exact drew_self _ | exact drew2_self _)⟩ ?_ ?_
      · simp only [List.take_succ_cons, List.take_zero, puts, Act.put, List.setIfInBounds_toArray, List.set_cons_zero, List.set_cons_succ]
        refine ⟨?_, ?_, ?_, ?_, ?_, ?_, ?_, ?_, ?_, ?_, ?_, ?_, trivial⟩
        · refine Or.inl ⟨by kernel_rfl, ?_⟩
          rintro w' ⟨os', d', rfl⟩ KK hKK
          refine wp_load_mid 25 (.tmp 8) rfl (W.heap.size + 1) 0 rfl (row x.1.1).toList _ (HPP.out.more lp os' d') Try.underlying25 rfl infoC8 ?_
          simp only [Act.put, Array.toArray_toList, List.setIfInBounds_toArray, List.set_cons_zero, List.set_cons_succ]
          with_reducible exact hKK.out _ ⟨_, _, rfl⟩
        · refine Or.inl ⟨by kernel_rfl, ?_⟩
          rintro w' ⟨os', d', rfl⟩ KK hKK
          refine wp_load_mid 25 (.tmp 3) rfl w.heap.size 0 rfl (row c).toList _ (HCC.out.more lc os' d') Try.underlying25 rfl infoC8 ?_
          simp only [Act.put, Array.toArray_toList, List.setIfInBounds_toArray, List.set_cons_zero, List.set_cons_succ]
          with_reducible exact hKK.out _ ⟨_, _, rfl⟩
        · refine Or.inl ⟨by kernel_rfl, ?_⟩
          rintro w' ⟨os', d', rfl⟩ KK hKK
          go_simp
          go_at_call 87
          refine (cminus_any _ _ HL.out.1 HL.out.2.2.1 _).mono ?_
          rintro e w' ⟨rfl, hb⟩; obtain ⟨os, d, rfl⟩ := more_of_below hb; clear hb
          go_simp
          with_reducible exact hKK.out _ ⟨_, _, rfl⟩
        · refine Or.inl ⟨by kernel_rfl, ?_⟩
          rintro w' ⟨os', d', rfl⟩ KK hKK
          go_simp
          go_at_call 55
          refine (cim_any _ HI1.out _).mono ?_
          rintro e w' ⟨rfl, hb⟩; obtain ⟨os, d, rfl⟩ := more_of_below hb; clear hb
          go_simp
          with_reducible exact hKK.out _ ⟨_, _, rfl⟩
        · refine Or.inl ⟨by kernel_rfl, ?_⟩
          rintro w' ⟨os', d', rfl⟩ KK hKK
          go_simp
          go_at_call 77
          refine (sign_any _ _ _ _ _ HO1.out).mono ?_
          rw [HS1.out]
          rintro e w' ⟨rfl, hb⟩; obtain ⟨os, d, rfl⟩ := more_of_below hb; clear hb
          go_simp
          with_reducible exact hKK.out _ ⟨_, _, rfl⟩
        · refine Or.inl ⟨by kernel_rfl, ?_⟩
          rintro w' ⟨os', d', rfl⟩ KK hKK
          refine wp_load_mid 25 (.tmp 9) rfl W.heap.size 0 rfl (row x.1.2).toList _ (HQQ.out.more lq os' d') Try.underlying25 rfl infoC8 ?_
          simp only [Act.put, Array.toArray_toList, List.setIfInBounds_toArray, List.set_cons_zero, List.set_cons_succ]
          with_reducible exact hKK.out _ ⟨_, _, rfl⟩
        · refine Or.inl ⟨by kernel_rfl, ?_⟩
          rintro w' ⟨os', d', rfl⟩ KK hKK
          refine wp_load_mid 25 (.tmp 3) rfl w.heap.size 0 rfl (row c).toList _ (HCC.out.more lc os' d') Try.underlying25 rfl infoC8 ?_
          simp only [Act.put, Array.toArray_toList, List.setIfInBounds_toArray, List.set_cons_zero, List.set_cons_succ]
          with_reducible exact hKK.out _ ⟨_, _, rfl⟩
        · refine Or.inl ⟨by kernel_rfl, ?_⟩
          rintro w' ⟨os', d', rfl⟩ KK hKK
          go_simp
          go_at_call 87
          refine (cminus_any _ _ HL.out.2.1 HL.out.2.2.1 _).mono ?_
          rintro e w' ⟨rfl, hb⟩; obtain ⟨os, d, rfl⟩ := more_of_below hb; clear hb
          go_simp
          with_reducible exact hKK.out _ ⟨_, _, rfl⟩
        · refine Or.inl ⟨by kernel_rfl, ?_⟩
          rintro w' ⟨os', d', rfl⟩ KK hKK
          go_simp
          go_at_call 55
          refine (cim_any _ HI2.out _).mono ?_
          rintro e w' ⟨rfl, hb⟩; obtain ⟨os, d, rfl⟩ := more_of_below hb; clear hb
          go_simp
          with_reducible exact hKK.out _ ⟨_, _, rfl⟩
        · refine Or.inl ⟨by kernel_rfl, ?_⟩
          rintro w' ⟨os', d', rfl⟩ KK hKK
          go_simp
          go_at_call 77
          refine (sign_any _ _ _ _ _ HO2.out).mono ?_
          rw [HS2.out]
          rintro e w' ⟨rfl, hb⟩; obtain ⟨os, d, rfl⟩ := more_of_below hb; clear hb
          go_simp
          with_reducible exact hKK.out _ ⟨_, _, rfl⟩
        · refine Or.inl ⟨by kernel_rfl, ?_⟩
          rintro w' ⟨os', d', rfl⟩ KK hKK
          go_simp
          try go_wp2_with fail
          with_reducible exact hKK.out _ ⟨_, _, rfl⟩
        · refine Or.inl ⟨by kernel_rfl, ?_⟩
          rintro w' ⟨os', d', rfl⟩ KK hKK
          go_simp
          try go_wp2_with fail
          with_reducible exact hKK.out _ ⟨_, _, rfl⟩
      rintro w' ⟨os', d', rfl⟩
      simp only [List.take_succ_cons, List.take_zero, puts, Act.put, List.setIfInBounds_toArray, List.set_cons_zero, List.set_cons_succ, List.drop_succ_cons, List.drop_zero]
      gi_wp2
      refine region_fixedIn (lets_round l 0) (fun w' => ∃ os' d', w' = more ((W.alloc (.cells (row x.1.2) 25)).alloc (.cells (row x.1.1) 25)) os' d') (by kernel_rfl) 9 [cv x.1.2, cv x.1.1, cv (C8.sub x.1.2 x.1.1), cv c, cv x.1.1, cv (C8.sub c x.1.1), sS (crs (C8.sub x.1.2 x.1.1) (C8.sub c x.1.1)), .int .i64 s, .int .i64 s] (by simp) (by kernel_rfl) (by kernel_rfl) ⟨_, _, rfl⟩ ?_ ?_
      · simp only [List.take_succ_cons, List.take_zero, puts, Act.put, List.setIfInBounds_toArray, List.set_cons_zero, List.set_cons_succ]
        refine ⟨?_, ?_, ?_, ?_, ?_, ?_, ?_, ?_, ?_, trivial⟩
        · refine Or.inl ⟨by kernel_rfl, ?_⟩
          rintro w' ⟨os', d', rfl⟩ KK hKK
          refine wp_load_mid 25 (.tmp 9) rfl W.heap.size 0 rfl (row x.1.2).toList _ (HQQ.out.more lq os' d') Try.underlying25 rfl infoC8 ?_
          simp only [Act.put, Array.toArray_toList, List.setIfInBounds_toArray, List.set_cons_zero, List.set_cons_succ]
          with_reducible exact hKK.out _ ⟨_, _, rfl⟩
        · refine Or.inl ⟨by kernel_rfl, ?_⟩
          rintro w' ⟨os', d', rfl⟩ KK hKK
          refine wp_load_mid 25 (.tmp 8) rfl (W.heap.size + 1) 0 rfl (row x.1.1).toList _ (HPP.out.more lp os' d') Try.underlying25 rfl infoC8 ?_
          simp only [Act.put, Array.toArray_toList, List.setIfInBounds_toArray, List.set_cons_zero, List.set_cons_succ]
          with_reducible exact hKK.out _ ⟨_, _, rfl⟩
        · refine Or.inl ⟨by kernel_rfl, ?_⟩
          rintro w' ⟨os', d', rfl⟩ KK hKK
          go_simp
          go_at_call 87
          refine (cminus_any _ _ HL.out.2.1 HL.out.1 _).mono ?_
          rintro e w' ⟨rfl, hb⟩; obtain ⟨os, d, rfl⟩ := more_of_below hb; clear hb
          go_simp
          with_reducible exact hKK.out _ ⟨_, _, rfl⟩
        · refine Or.inl ⟨by kernel_rfl, ?_⟩
          rintro w' ⟨os', d', rfl⟩ KK hKK
          refine wp_load_mid 25 (.tmp 3) rfl w.heap.size 0 rfl (row c).toList _ (HCC.out.more lc os' d') Try.underlying25 rfl infoC8 ?_
          simp only [Act.put, Array.toArray_toList, List.setIfInBounds_toArray, List.set_cons_zero, List.set_cons_succ]
          with_reducible exact hKK.out _ ⟨_, _, rfl⟩
        · refine Or.inl ⟨by kernel_rfl, ?_⟩
          rintro w' ⟨os', d', rfl⟩ KK hKK
          refine wp_load_mid 25 (.tmp 8) rfl (W.heap.size + 1) 0 rfl (row x.1.1).toList _ (HPP.out.more lp os' d') Try.underlying25 rfl infoC8 ?_
          simp only [Act.put, Array.toArray_toList, List.setIfInBounds_toArray, List.set_cons_zero, List.set_cons_succ]
          with_reducible exact hKK.out _ ⟨_, _, rfl⟩
        · refine Or.inl ⟨by kernel_rfl, ?_⟩
          rintro w' ⟨os', d', rfl⟩ KK hKK
          go_simp
          go_at_call 87
          refine (cminus_any _ _ HL.out.2.2.1 HL.out.1 _).mono ?_
          rintro e w' ⟨rfl, hb⟩; obtain ⟨os, d, rfl⟩ := more_of_below hb; clear hb
          go_simp
          with_reducible exact hKK.out _ ⟨_, _, rfl⟩
        · refine Or.inl ⟨by kernel_rfl, ?_⟩
          rintro w' ⟨os', d', rfl⟩ KK hKK
          go_simp
          go_at_call 67
          refine (cross_any _ _ HL.out.2.2.2.1 HL.out.2.2.2.2 _).mono ?_
          rintro e w' ⟨rfl, hb⟩; obtain ⟨os, d, rfl⟩ := more_of_below hb; clear hb
          go_simp
          with_reducible exact hKK.out _ ⟨_, _, rfl⟩
        · refine Or.inl ⟨by kernel_rfl, ?_⟩
          rintro w' ⟨os', d', rfl⟩ KK hKK
          go_simp
          go_at_call 77
          refine (sign_any _ _ _ _ _ HO3.out).mono ?_
          rw [HS3.out]
          rintro e w' ⟨rfl, hb⟩; obtain ⟨os, d, rfl⟩ := more_of_below hb; clear hb
          go_simp
          with_reducible exact hKK.out _ ⟨_, _, rfl⟩
        · refine Or.inl ⟨by kernel_rfl, ?_⟩
          rintro w' ⟨os', d', rfl⟩ KK hKK
          go_simp
          try go_wp2_with fail
          with_reducible exact hKK.out _ ⟨_, _, rfl⟩
      rintro w' ⟨os', d', rfl⟩
      simp only [List.take_succ_cons, List.take_zero, puts, Act.put, List.setIfInBounds_toArray, List.set_cons_zero, List.set_cons_succ, List.drop_succ_cons, List.drop_zero]
      have hwd := HWD.out
      by_cases h1 : f ≤ 0
      · by_cases h2 : 0 < t
        · by_cases h3 : 0 < s
          · have HD := Lib.hid (show dlt c x.1 = 1 by unfold dlt; rw [HU1.out, HU2.out, HU3.out]; first | (rw [if_pos (by omega)]) | (rw [if_neg (by omega), if_pos (by omega)]) | (rw [if_neg (by omega), if_neg (by omega)]))
            gi_wp2
            have hKS : KpS (w.heap.size + 1) (B6 + 1) W (more (((W.setCell ⟨B6, 0, none⟩ (.int .i64 (wdS c pre + 1))).alloc (.cells (row x.1.2) 25)).alloc (.cells (row x.1.1) 25)) os' d') := ((((KpS.refl (w.heap.size + 1) (B6 + 1) W).setCell hb2 0 (Value.int .i64 (wdS c pre + 1))).alloc (by (first | omega | (simp; omega) | (simp; done))) (by (first | omega | (simp; omega) | (simp; done))) _).alloc (by (first | omega | (simp; omega) | (simp; done))) (by (first | omega | (simp; omega) | (simp; done))) _).more (by (first | omega | (simp; omega) | (simp; done))) (by (first | omega | (simp; omega) | (simp; done))) os' d'
            refine ⟨((((KeepsOthers.setCell _ _ _).trans (KeepsOthers.alloc _ _)).trans (KeepsOthers.alloc _ _)).trans (keeps_more _ _ _)).from _, hKS, ?_, hK.trans hKS⟩
            rw [wdS_snoc, HD.out]
            try rw [show wdS c pre + -1 = wdS c pre - 1 by omega]
            exact (hS.store _).below (n := B6 + 1) (by repeat' (first | (with_reducible exact Below.refl _ _) | (with_reducible assumption) | (with_reducible refine Below.alloc ?_ ?_ _) | (with_reducible refine below_more ?_ ?_ _ _) | (with_reducible refine below_rd ?_ ?_ _ _) | (with_reducible refine Below.drew ?_) | (with_reducible refine Below.setCell ?_ ?_ _) | go_size)) (by omega)
          · have HD := Lib.hid (show dlt c x.1 = 0 by unfold dlt; rw [HU1.out, HU2.out, HU3.out]; first | (rw [if_pos (by omega)]) | (rw [if_neg (by omega), if_pos (by omega)]) | (rw [if_neg (by omega), if_neg (by omega)]))
            gi_wp2
            have hKS : KpS (w.heap.size + 1) (B6 + 1) W (more ((W.alloc (.cells (row x.1.2) 25)).alloc (.cells (row x.1.1) 25)) os' d') := ((((KpS.refl (w.heap.size + 1) (B6 + 1) W)).alloc (by (first | omega | (simp; omega) | (simp; done))) (by (first | omega | (simp; omega) | (simp; done))) _).alloc (by (first | omega | (simp; omega) | (simp; done))) (by (first | omega | (simp; omega) | (simp; done))) _).more (by (first | omega | (simp; omega) | (simp; done))) (by (first | omega | (simp; omega) | (simp; done))) os' d'
            refine ⟨(((KeepsOthers.alloc _ _).trans (KeepsOthers.alloc _ _)).trans (keeps_more _ _ _)).from _, hKS, ?_, hK.trans hKS⟩
            rw [wdS_snoc, HD.out, Int.add_zero]
            exact hS.below (n := B6 + 1) (by repeat' (first | (with_reducible exact Below.refl _ _) | (with_reducible assumption) | (with_reducible refine Below.alloc ?_ ?_ _) | (with_reducible refine below_more ?_ ?_ _ _) | (with_reducible refine below_rd ?_ ?_ _ _) | (with_reducible refine Below.drew ?_) | (with_reducible refine Below.setCell ?_ ?_ _) | go_size)) (by omega)
        · have HD := Lib.hid (show dlt c x.1 = 0 by unfold dlt; rw [HU1.out, HU2.out, HU3.out]; first | (rw [if_pos (by omega)]) | (rw [if_neg (by omega), if_pos (by omega)]) | (rw [if_neg (by omega), if_neg (by omega)]))
          gi_wp2
          have hKS : KpS (w.heap.size + 1) (B6 + 1) W (more ((W.alloc (.cells (row x.1.2) 25)).alloc (.cells (row x.1.1) 25)) os' d') := ((((KpS.refl (w.heap.size + 1) (B6 + 1) W)).alloc (by (first | omega | (simp; omega) | (simp; done))) (by (first | omega | (simp; omega) | (simp; done))) _).alloc (by (first | omega | (simp; omega) | (simp; done))) (by (first | omega | (simp; omega) | (simp; done))) _).more (by (first | omega | (simp; omega) | (simp; done))) (by (first | omega | (simp; omega) | (simp; done))) os' d'
          refine ⟨(((KeepsOthers.alloc _ _).trans (KeepsOthers.alloc _ _)).trans (keeps_more _ _ _)).from _, hKS, ?_, hK.trans hKS⟩
          rw [wdS_snoc, HD.out, Int.add_zero]
          exact hS.below (n := B6 + 1) (by repeat' (first | (with_reducible exact Below.refl _ _) | (with_reducible assumption) | (with_reducible refine Below.alloc ?_ ?_ _) | (with_reducible refine below_more ?_ ?_ _ _) | (with_reducible refine below_rd ?_ ?_ _ _) | (with_reducible refine Below.drew ?_) | (with_reducible refine Below.setCell ?_ ?_ _) | go_size)) (by omega)
      · by_cases h2 : 0 < t
        · have HD := Lib.hid (show dlt c x.1 = 0 by unfold dlt; rw [HU1.out, HU2.out, HU3.out]; first | (rw [if_pos (by omega)]) | (rw [if_neg (by omega), if_pos (by omega)]) | (rw [if_neg (by omega), if_neg (by omega)]))
          gi_wp2
          have hKS : KpS (w.heap.size + 1) (B6 + 1) W (more ((W.alloc (.cells (row x.1.2) 25)).alloc (.cells (row x.1.1) 25)) os' d') := ((((KpS.refl (w.heap.size + 1) (B6 + 1) W)).alloc (by (first | omega | (simp; omega) | (simp; done))) (by (first | omega | (simp; omega) | (simp; done))) _).alloc (by (first | omega | (simp; omega) | (simp; done))) (by (first | omega | (simp; omega) | (simp; done))) _).more (by (first | omega | (simp; omega) | (simp; done))) (by (first | omega | (simp; omega) | (simp; done))) os' d'
          refine ⟨(((KeepsOthers.alloc _ _).trans (KeepsOthers.alloc _ _)).trans (keeps_more _ _ _)).from _, hKS, ?_, hK.trans hKS⟩
          rw [wdS_snoc, HD.out, Int.add_zero]
          exact hS.below (n := B6 + 1) (by repeat' (first | (with_reducible exact Below.refl _ _) | (with_reducible assumption) | (with_reducible refine Below.alloc ?_ ?_ _) | (with_reducible refine below_more ?_ ?_ _ _) | (with_reducible refine below_rd ?_ ?_ _ _) | (with_reducible refine Below.drew ?_) | (with_reducible refine Below.setCell ?_ ?_ _) | go_size)) (by omega)
        · by_cases h3 : s < 0
          · have HD := Lib.hid (show dlt c x.1 = (-1) by unfold dlt; rw [HU1.out, HU2.out, HU3.out]; first | (rw [if_pos (by omega)]) | (rw [if_neg (by omega), if_pos (by omega)]) | (rw [if_neg (by omega), if_neg (by omega)]))
            gi_wp2
            have hKS : KpS (w.heap.size + 1) (B6 + 1) W (more (((W.setCell ⟨B6, 0, none⟩ (.int .i64 (wdS c pre - 1))).alloc (.cells (row x.1.2) 25)).alloc (.cells (row x.1.1) 25)) os' d') := ((((KpS.refl (w.heap.size + 1) (B6 + 1) W).setCell hb2 0 (Value.int .i64 (wdS c pre - 1))).alloc (by (first | omega | (simp; omega) | (simp; done))) (by (first | omega | (simp; omega) | (simp; done))) _).alloc (by (first | omega | (simp; omega) | (simp; done))) (by (first | omega | (simp; omega) | (simp; done))) _).more (by (first | omega | (simp; omega) | (simp; done))) (by (first | omega | (simp; omega) | (simp; done))) os' d'
            refine ⟨((((KeepsOthers.setCell _ _ _).trans (KeepsOthers.alloc _ _)).trans (KeepsOthers.alloc _ _)).trans (keeps_more _ _ _)).from _, hKS, ?_, hK.trans hKS⟩
            rw [wdS_snoc, HD.out]
            try rw [show wdS c pre + -1 = wdS c pre - 1 by omega]
            exact (hS.store _).below (n := B6 + 1) (by repeat' (first | (with_reducible exact Below.refl _ _) | (with_reducible assumption) | (with_reducible refine Below.alloc ?_ ?_ _) | (with_reducible refine below_more ?_ ?_ _ _) | (with_reducible refine below_rd ?_ ?_ _ _) | (with_reducible refine Below.drew ?_) | (with_reducible refine Below.setCell ?_ ?_ _) | go_size)) (by omega)
          · have HD := Lib.hid (show dlt c x.1 = 0 by unfold dlt; rw [HU1.out, HU2.out, HU3.out]; first | (rw [if_pos (by omega)]) | (rw [if_neg (by omega), if_pos (by omega)]) | (rw [if_neg (by omega), if_neg (by omega)]))
            gi_wp2
            have hKS : KpS (w.heap.size + 1) (B6 + 1) W (more ((W.alloc (.cells (row x.1.2) 25)).alloc (.cells (row x.1.1) 25)) os' d') := ((((KpS.refl (w.heap.size + 1) (B6 + 1) W)).alloc (by (first | omega | (simp; omega) | (simp; done))) (by (first | omega | (simp; omega) | (simp; done))) _).alloc (by (first | omega | (simp; omega) | (simp; done))) (by (first | omega | (simp; omega) | (simp; done))) _).more (by (first | omega | (simp; omega) | (simp; done))) (by (first | omega | (simp; omega) | (simp; done))) os' d'
            refine ⟨(((KeepsOthers.alloc _ _).trans (KeepsOthers.alloc _ _)).trans (keeps_more _ _ _)).from _, hKS, ?_, hK.trans hKS⟩
            rw [wdS_snoc, HD.out, Int.add_zero]
            exact hS.below (n := B6 + 1) (by repeat' (first | (with_reducible exact Below.refl _ _) | (with_reducible assumption) | (with_reducible refine Below.alloc ?_ ?_ _) | (with_reducible refine below_more ?_ ?_ _ _) | (with_reducible refine below_rd ?_ ?_ _ _) | (with_reducible refine Below.drew ?_) | (with_reducible refine Below.setCell ?_ ?_ _) | go_size)) (by omega)
  case done =>
    rintro D ys W hD hys ⟨hS, hK⟩ hKd
    have hsW := hK.1.size
    obtain ⟨r1, r2⟩ := id hS
    have HYS := Lib.hid (show wdS c ys = wdL c (sidesUpto xs xs.length) by unfold wdS; rw [hys])
    clear hys
    gi_wp2
    refine ⟨by simp, .inl ⟨_, _, rfl, run_takeDeferred hKd, ?_⟩⟩
    have hBW : Below w.heap.size w W := hB0.trans (hK.1.mono (by omega))
    refine ⟨.tuple #[.int .i64 (wdS c ys), .bool true], ?_, by rw [HYS.out], hBW.trans (belowK_b (w := w) (Nat.le_refl _) W D _ _ (by omega) hKd rfl rfl)⟩
    simp [results, Try.f40, go_sem]
  case stop =>
    rintro D cc pre W _ _ h _
    exact h.elim
end Go.Proofs.Ytklmlodapinflaa
